/- NodeFormsCard: abstract runs. -/
import Derived.Test.YtgkhgapkfnkagaaGreatDoorNodeFormsCardLye5
set_option linter.unusedVariables false
set_option linter.unusedSimpArgs false
namespace Go.Ab
noncomputable section
open Go.RowKit
def inP (ρ:Nat→Nat) (l:List (Nat×AV)):List (Nat×AV):=l.map fun q=>(q.1,inA ρ q.2)
theorem oneAV_in (ρ:Nat→Nat) (x:AV):oneAV (inA ρ x)=oneAV x:=by
 cases x<;>first|rfl|(rename_i d;cases d<;>rfl)
theorem aggB_in (ρ:Nat→Nat) (x:AV):aggB (inA ρ x)=aggB x:=by cases x<;>rfl
theorem cellsOf_in (ρ:Nat→Nat) (x:AV):cellsOf (inA ρ x)=inAs ρ (cellsOf x):=by
 cases x<;>first|rfl|(rename_i d;cases d<;>rfl)
theorem cellsB_in (ρ:Nat→Nat) (n:Nat) (x:AV):cellsB n (inA ρ x)=cellsB n x:=by
 unfold cellsB
 rw [cellsOf_in,inAs_len,aggB_in]
def fiE (place:Nat→Option (Nat×Nat)) (ps:List (Nat×AV)):List AV→Option (List AV) :=
 List.rec (motive:=fun _=>List AV→Option (List AV)) (fun cs=>some cs)
  (fun q _ ih cs=>match place q.1 with
    | some p=>match cellsB p.2 q.2 && !(Nat.beq p.2 0) with
      | true=>match pO cs p.1 (cellsOf q.2) with
        | some cs'=>ih cs'
        | none=>none
      | false=>none
    | none=>none) ps
theorem fiE_ok {ρ:Nat→Nat} {place:Nat→Option (Nat×Nat)} {pk:Nat→(Nat×Nat→Prop)→Prop} (hp:∀ q p,place q=some p→∀ K,K p→pk q K):∀ {ps:List (Nat×AV)} {cs r:List AV},fiE place ps cs=some r→∀ {K:List AV→Prop},K (inAs ρ r)→fillK pk (inAs ρ cs) (inP ρ ps) K
 | [],cs,r,h,K,hk=>by
   have:some cs=some r:=h
   cases this;exact hk
 | q :: ps,cs,r,h,K,hk=>by
   replace h:(match place q.1 with
    | some p=>match cellsB p.2 q.2 && !(Nat.beq p.2 0) with
      | true=>match pO cs p.1 (cellsOf q.2) with
        | some cs'=>fiE place ps cs'
        | none=>none
      | false=>none
    | none=>none)=some r:=h
   split at h
   ·rename_i p hpl
    split at h
    ·rename_i hb
     split at h
     ·rename_i cs' hcs
      refine hp _ _ hpl _ ?_
      show (bif cellsB p.2 (inA ρ q.2) && !(Nat.beq p.2 0) then _ else _)
      rw [cellsB_in,hb]
      obtain ⟨h1,h2⟩:=pO_ok hcs
      refine putK_in ?_ ?_
      ·rw [cellsOf_in,inAs_len,inAs_len]
       rcases h1 with h1|h1
       ·exact .inl (by rw [h1];rfl)
       ·exact .inr h1
      ·have e:over (inAs ρ cs) p.1 (cellsOf (inA ρ q.2))=inAs ρ cs':=by
        rw [h2,cellsOf_in]
        unfold over
        simp only [inAs_map,List.map_append,List.map_take,List.map_drop,List.length_map]
       rw [e]
       exact fiE_ok hp h hk
     ·cases h
    ·cases h
   ·cases h
def plE (tt:TypeId→Option TI) (fs:List Field) (k:Nat):Option (Nat×Nat) :=
 match fieldOff fs k with
 | some (o,t)=>match tt t with
   | some it=>some (o,it.size)
   | none=>none
 | none=>none
theorem plE_ok {tt:TypeId→Option TI} {fs:List Field} (q:Nat) (p:Nat×Nat) (h:plE tt fs q=some p) (K:Nat×Nat→Prop) (hk:K p):placeK tt fs q K:=by
 unfold plE at h
 unfold placeK
 split at h
 ·rename_i o t ho
  rw [ho]
  split at h
  ·rename_i it hit
   cases h
   exact ttK_in hit hk
  ·cases h
 ·cases h
def ptE (T:Fr) (l:List (Nat×Operand)):List (Nat×AV):=List.rec (motive:=fun _=>List (Nat×AV)) [] (fun p _ ih=>(p.1,eT T p.2) :: ih) l
theorem ptE_in {ρ:Nat→Nat} {T:Fr} {F:AF} (h:Ag ρ T F):∀ l:List (Nat×Operand),evParts F l=inP ρ (ptE T l)
 | []=>rfl
 | p :: r=>by
   show (p.1,ev F p.2) :: evParts F r=(p.1,inA ρ (eT T p.2)) :: inP ρ (ptE T r)
   rw [ptE_in h r,eT_ok h]
theorem evPartsK_in {F:AF}:∀ {l:List (Nat×Operand)} {K:List (Nat×AV)→Prop},K (evParts F l)→evPartsK F l K
 | [],_,h=>h
 | p :: r,K,h=>by
   obtain ⟨i,x⟩:=p
   rw [evPartsK_c]
   exact movK_in (evPartsK_in (l:=r) (K:=fun l=>K ((i,ev F x) :: l)) h)
theorem evsK_in {F:AF}:∀ {l:List Operand} {K:List AV→Prop},K (evs F l)→evsK F l K
 | [],_,h=>h
 | x :: r,K,h=>by
   rw [evsK_c]
   exact movK_in (evsK_in (l:=r) (K:=fun l=>K (ev F x :: l)) h)
def sT (T:Fr) (l:List Operand):List AV:=List.rec (motive:=fun _=>List AV) [] (fun x _ ih=>eT T x :: ih) l
theorem sT_in {ρ:Nat→Nat} {T:Fr} {F:AF} (h:Ag ρ T F):∀ l:List Operand,evs F l=inAs ρ (sT T l)
 | []=>rfl
 | x :: r=>by
   show ev F x :: evs F r=inA ρ (eT T x) :: inAs ρ (sT T r)
   rw [sT_in h r,eT_ok h]
def buE (tt:TypeId→Option TI) (t:TypeId) (parts:List (Nat×AV)):Option AV :=
 match tt t with
 | some i=>match isStructD i.desc&&(allIn tt (structFs i.desc)&&cellsB i.size (avOf i.zero)) with
   | true=>match fiE (plE tt (structFs i.desc)) parts (cellsOf (avOf i.zero)) with
     | some cs=>some (.agg cs)
     | none=>none
   | false=>none
 | none=>none
theorem buE_ok {ρ:Nat→Nat} {tt:TypeId→Option TI} {t:TypeId} {parts:List (Nat×AV)} {v:AV} (h:buE tt t parts=some v) {K:AV→Prop} (hk:K (inA ρ v)):buildK tt t (inP ρ parts) K:=by
 unfold buE at h
 unfold buildK
 split at h
 ·rename_i i hi
  refine ttK_in hi ?_
  split at h
  ·rename_i hb
   rw [hb]
   split at h
   ·rename_i cs hcs
    cases h
    have e:cellsOf (avOf i.zero)=inAs ρ (cellsOf (avOf i.zero)):=by rw [← cellsOf_in,inA_avOf]
    rw [e]
    exact fiE_ok plE_ok hcs hk
   ·cases h
  ·cases h
 ·cases h
theorem lpush_psh {ρ:Nat→Nat} {L:Hp} {ab:AB} {K:Nat→List AB→Prop} (hk:K (hN L) (inH ρ (psh L ab))):lpushK (inH ρ L) (inB ρ ab) 0 K:=by
 refine lpushK_in ?_
 rw [Nat.zero_add,inH_len,← inH_psh]
 exact hk
def bxE (x:AV) (L:Hp):Option RV :=
 match oneAV x||aggB x with
 | true=>some (.ptr (hN L) 0,some (psh L (.cells (cellsOf x))))
 | false=>none
theorem bxE_ok {ρ:Nat→Nat} {x:AV} {L:Hp} {r:RV} (h:bxE x L=some r):Goes ρ L r (boxK (inA ρ x) (inH ρ L)):=by
 intro K hk
 unfold bxE at h
 unfold boxK
 rw [oneAV_in,aggB_in]
 split at h
 ·rename_i hb
  cases h
  rw [hb,cellsOf_in]
  exact lpush_psh (ab := .cells (cellsOf x)) hk
 ·cases h
def bTE (tt:TypeId→Option TI) (t:TypeId) (x:AV) (L:Hp):Option RV :=
 match tt t with
 | some i=>match i.pool||i.rows with
   | true=>none
   | false=>bxE x L
 | none=>bxE x L
theorem bTE_ok {ρ:Nat→Nat} {tt:TypeId→Option TI} {t:TypeId} {x:AV} {L:Hp} {r:RV} (h:bTE tt t x L=some r):Goes ρ L r (boxTK tt t (inA ρ x) (inH ρ L)):=by
 intro K hk
 unfold bTE at h
 unfold boxTK
 split at h
 ·rename_i i hi
  rw [hi]
  split at h
  ·cases h
  ·rename_i hb
   rw [Bool.or_eq_false_iff] at hb
   simp only [hb.1,hb.2]
   exact bxE_ok h K hk
 ·rename_i hi
  rw [hi]
  exact bxE_ok h K hk
def alE (tt:TypeId→Option TI) (t:TypeId) (L:Hp):Option RV :=
 match tt t with
 | some i=>match i.rows with
   | true=>none
   | false=>bxE (avOf i.zero) L
 | none=>none
theorem alE_ok {ρ:Nat→Nat} {tt:TypeId→Option TI} {t:TypeId} {L:Hp} {r:RV} (h:alE tt t L=some r):Goes ρ L r (allocTK tt t (inH ρ L)):=by
 intro K hk
 unfold alE at h
 unfold allocTK
 split at h
 ·rename_i i hi
  refine ttK_in hi ?_
  split at h
  ·cases h
  ·rename_i hb
   rw [hb]
   have:=bxE_ok h K hk
   rw [inA_avOf] at this
   exact this
 ·cases h
def tDE (x:AV) (L:Hp):Option (DV×Hp) :=
 match x with
 | .d x=>some (x,L)
 | .arr j=>match hG L j with
   | some (.row e n xs _)=>some (.sl n xs,hS L j (.row e n xs true))
   | _=>none
 | _=>none
theorem tDE_ok {ρ:Nat→Nat} {x:AV} {L L':Hp} {d:DV} (h:tDE x L=some (d,L')) {K:DV→List AB→Prop} (hk:K d (inH ρ L')):toDK (inA ρ x) (inH ρ L) K:=by
 unfold tDE at h
 split at h
 ·cases h;exact hk
 ·split at h
  ·rename_i j e n xs sh hj
   cases h
   refine lgetK_in (inH_at hj) (lsetK_in (inH_lt hj) ?_)
   rw [inH_set] at hk
   exact hk
  ·cases h
 ·cases h
def tDsE (xs:List AV):Hp→Option (List DV×Hp) :=
 List.rec (motive:=fun _=>Hp→Option (List DV×Hp)) (fun L=>some ([],L)) (fun x _ ih L=>match tDE x L with
  | some (d,L1)=>match ih L1 with
    | some (ds,L2)=>some (d :: ds,L2)
    | none=>none
  | none=>none) xs
theorem tDsE_ok {ρ:Nat→Nat}:∀ {xs:List AV} {L L':Hp} {ds:List DV},tDsE xs L=some (ds,L')→∀ {K:List DV→List AB→Prop},K ds (inH ρ L')→toDsK (inAs ρ xs) (inH ρ L) K
 | [],L,L',ds,h,K,hk=>by
   have:some ([],L)=some (ds,L'):=h
   cases this;exact hk
 | x :: xs,L,L',ds,h,K,hk=>by
   replace h:(match tDE x L with
   | some (d,L1)=>match tDsE xs L1 with
     | some (ds,L2)=>some (d :: ds,L2)
     | none=>none
   | none=>none)=some (ds,L'):=h
   split at h
   ·rename_i d L1 h1
    split at h
    ·rename_i ds1 L2 h2
     cases h
     exact tDE_ok h1 (K:=fun d L1=>toDsK (inAs ρ xs) L1 fun ds L2=>K (d :: ds) L2) (tDsE_ok h2 (K:=fun ds L2=>K (d :: ds) L2) hk)
    ·cases h
   ·cases h
def nrE (ns:List Nat) (size:Nat) (ds:List DV):Nat→List DV :=
 List.rec (motive:=fun _=>Nat→List DV) (fun _=>[]) (fun d _ ih j=>(match d with
  | .nils=>(match nthNat ns (j % size) with|0 => .nils|n+1 => .sl (n+1) [])
  | d=>d) :: ih (j+1)) ds
theorem nrE_ok {ns:List Nat} {size:Nat}:∀ {ds:List DV} {j:Nat} {K:List DV→Prop},K (nrE ns size ds j)→normNs ns size ds j K
 | [],_,_,h=>h
 | d :: r,j,K,h=>by
   have ih:=fun (K:List DV→Prop) h=>nrE_ok (ns:=ns) (size:=size) (ds:=r) (j:=j+1) (K:=K) h
   cases d with
   | nils =>
     show nzK (nthNat ns (j % size)) fun y=>normNs ns size r (j+1) fun l=>K (y :: l)
     have h2:K ((match nthNat ns (j % size) with|0=>DV.nils|n+1 => .sl (n+1) []) :: nrE ns size r (j+1)):=h
     unfold nzK
     split<;>(rename_i e;rw [e] at h2;exact ih _ h2)
   | int _ _=>exact ih _ h
   | bool _=>exact ih _ h
   | str _=>exact ih _ h
   | flt _ _=>exact ih _ h
   | cplx _ _ _=>exact ih _ h
   | sl _ _=>exact ih _ h
   | slo _ _=>exact ih _ h
   | slq _ _=>exact ih _ h
   | nilp=>exact ih _ h
   | nilm=>exact ih _ h
   | nilf=>exact ih _ h
   | any=>exact ih _ h
theorem dputK_in:∀ {cs:List DV} {n:Nat} {vs:List DV} {K:List DV→Prop},(vs=[]∨n+vs.length≤cs.length)→K (cs.take n++vs++cs.drop (n+vs.length))→dputK cs n vs K
 | cs,n,[],K,_,h=>by
   have:dputK cs n [] K=K cs:=by cases cs<;>cases n<;>rfl
   rw [this]
   simpa using h
 | [],n,v :: vs,K,h,_=>by
   rcases h with h|h
   ·cases h
   ·simp at h
 | c :: cs,n+1,v :: vs,K,h,k=>by
   refine dputK_in (cs:=cs) (n:=n) (vs:=v :: vs) (K:=fun l=>K (c :: l)) (.inr ?_) ?_
   ·rcases h with h|h
    ·cases h
    ·simp at h ⊢;omega
   ·have e:n+1+(v :: vs).length=(n+(v :: vs).length)+1:=by omega
    rw [e,List.drop_succ_cons,List.take_succ_cons] at k
    simpa using k
 | c :: cs,0,v :: vs,K,h,k=>by
   refine dputK_in (cs:=cs) (n:=0) (vs:=vs) (K:=fun l=>K (v :: l)) ?_ ?_
   ·rcases h with h|h
    ·cases h
    ·simp at h
     rcases Nat.eq_zero_or_pos vs.length with h0|h0
     ·exact .inl (List.eq_nil_of_length_eq_zero h0)
     ·exact .inr (by omega)
   ·simp only [Nat.zero_add,List.take_zero,List.nil_append] at k ⊢
    simpa using k
def nm1 (x:DV):DV:=match x with | .nils => .sl 1 []|x=>x
theorem nm1_eq (x:DV):nm1 x=norm1 x:=by cases x<;>rfl
def stE (tt:TypeId→Option TI) (t:TypeId) (L:Hp) (a v:AV):Option Hp :=
 match tt t with
 | some i=>match cellsB i.size v with
   | true=>match a with
     | .ap j k off=>match tDsE (cellsOf v) L with
       | some (ds,L1)=>match hG L1 j with
         | some (.row e n xs false)=>match gN xs k with
           | some cs=>match pO cs off (nrE (cellNs tt 6 t) i.size ds 0) with
             | some cs'=>some (hS L1 j (.row e n (sN xs k cs') false))
             | none=>none
           | none=>none
         | _=>none
       | none=>none
     | .ptr j off=>match hG L j with
       | some (.cells cs)=>match pO cs off (cellsOf v) with
         | some cs'=>some (hS L j (.cells cs'))
         | none=>none
       | _=>none
     | .mp _ b off=>match oneAV v with
       | true=>match tDE v L with
         | some (d,L')=>match bxL b L' with
           | some (m,at_,cs)=>match Nat.blt off (lenN cs) with
             | true=>match at_ with
               | .inMap j k=>match hG L' m with
                 | some (.map es)=>some (hS L' m (.map (sN es j (k,.box b (sN cs off (nm1 d))))))
                 | _=>none
               | .alone=>some (hS L' m (.pool b (sN cs off (nm1 d))))
             | false=>none
           | none=>none
         | none=>none
       | false=>none
     | _=>none
   | false=>none
 | none=>none
theorem overD_set {cs:List DV} {off:Nat} {d:DV} (h:off<cs.length):overD cs off [d]=cs.set off d:=by
 unfold overD
 rw [List.set_eq_take_append_cons_drop,if_pos h]
 simp
theorem inE_set (ρ:Nat→Nat) (es:List (KV×MV)) (j:Nat) (k:KV) (m:MV):inE ρ (es.set j (k,m))=(inE ρ es).set j (k,inM ρ m):=by unfold inE;rw [List.map_set]
theorem stE_ok {ρ:Nat→Nat} {tt:TypeId→Option TI} {t:TypeId} {L L':Hp} {a v:AV} (h:stE tt t L a v=some L') {K:List AB→Prop} (hk:K (inH ρ L')):storeAllK tt t (inH ρ L) (inA ρ a) (inA ρ v) K:=by
 unfold stE at h
 unfold storeAllK
 split at h
 ·rename_i i hi
  refine ttK_in hi ?_
  split at h
  ·rename_i hb
   split at h
   ·rename_i j kk off
    split at h
    ·rename_i ds L1 h1
     split at h
     ·rename_i e n xs hj
      split at h
      ·rename_i cs hcs
       split at h
       ·rename_i cs' hp
        cases h
        rw [gN_eq] at hcs
        show storeApK tt t i (inH ρ L) j kk off (inA ρ v) K
        unfold storeApK
        rw [cellsB_in,hb,cellsOf_in]
        refine tDsE_ok h1 (nrE_ok ?_)
        refine lgetK_in (inH_at hj) ⟨cs,hcs,?_⟩
        obtain ⟨q1,q2⟩:=pO_ok hp
        refine dputK_in q1 (lsetK_in (inH_lt hj) ?_)
        rw [← q2]
        rw [inH_set,sN_eq] at hk
        exact hk
       ·cases h
      ·cases h
     ·cases h
    ·cases h
   ·rename_i j off
    split at h
    ·rename_i cs hj
     split at h
     ·rename_i cs' hp
      cases h
      show storeK i (inH ρ L) (.ptr j off) (inA ρ v) K
      unfold storeK
      rw [cellsB_in,hb]
      refine lgetK_in (inH_at hj) ?_
      obtain ⟨q1,q2⟩:=pO_ok hp
      refine putK_in ?_ (lsetK_in (inH_lt hj) ?_)
      ·rw [cellsOf_in,inAs_len,inAs_len]
       rcases q1 with q1|q1
       ·exact .inl (by rw [q1];rfl)
       ·exact .inr q1
      ·have e:over (inAs ρ cs) off (cellsOf (inA ρ v))=inAs ρ cs':=by
        rw [q2,cellsOf_in]
        unfold over
        simp only [inAs_map,List.map_append,List.map_take,List.map_drop,List.length_map]
       rw [e]
       rw [inH_set] at hk
       exact hk
     ·cases h
    ·cases h
   ·rename_i ii b off
    split at h
    ·rename_i h1
     split at h
     ·rename_i d L1 hd
      split at h
      ·rename_i m at_ cs hbx
       split at h
       ·rename_i hlt
        rw [blt_iff,lenN_eq] at hlt
        obtain ⟨ab,hm,his⟩:=bxL_ok hbx
        show storeK i (inH ρ L) (.mp ii (ρ b) off) (inA ρ v) K
        unfold storeK
        rw [cellsB_in,hb,oneAV_in]
        show (bif oneAV v then _ else _)
        rw [h1,cond_true]
        refine tDE_ok hd ?_
        split at h
        ·rename_i j kk
         obtain ⟨es,rfl,hes⟩:=his
         rw [hm] at h
         simp only at h
         cases h
         refine .inl ⟨m,inE ρ es,j,kk,cs,inH_at hm,inE_at hes,hlt,fun L'' e => ?_⟩
         rw [e,overD_set hlt,← nm1_eq]
         rw [inH_set,sN_eq,sN_eq] at hk
         have e2:inB ρ (.map (es.set j (kk,.box b (cs.set off (nm1 d))))) = .map ((inE ρ es).set j (kk,.box (ρ b) (cs.set off (nm1 d)))):=by
          show AB.map (inE ρ _)=_
          rw [inE_set];rfl
         rw [e2] at hk
         exact hk
        ·cases h
         rw [show ab = .pool b cs from his] at hm
         refine .inr ⟨m,cs,inH_at hm,hlt,fun L'' e => ?_⟩
         rw [e,overD_set hlt,← nm1_eq]
         rw [inH_set,sN_eq] at hk
         exact hk
       ·cases h
      ·cases h
     ·cases h
    ·cases h
   ·cases h
  ·cases h
 ·cases h
end
end Go.Ab
