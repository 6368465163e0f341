/- NodeFormsCard: abstract runs. -/
import Derived.Test.YtgkhgapkfnkagaaGreatDoorNodeFormsCardLye16
set_option linter.unusedVariables false
set_option linter.unusedSimpArgs false
namespace Go.Ab
noncomputable section
open Go.RowKit
inductive XE where
 | n
 | x (id:Nat)
 | g (l:Nat)
 | r
def XE.out:XE→Exit
 | .n => .normal
 | .x id => .exit id
 | .g l => .goto l
 | .r => .ret
abbrev CR:=XE×Fr×Hp×Nat
def bigN:Nat:=1000000000
def lpE (run:Fr→Hp→Nat→Option CR) (N:Nat):Fr→Hp→Nat→Option CR :=
 Nat.rec (motive:=fun _=>Fr→Hp→Nat→Option CR) (fun _ _ _=>none) (fun _ ih T L nx=>match run T L nx with
  | some (e,T',L',nx')=>match e with
    | .n=>ih T' L' nx'
    | e=>some (e,T',L',nx')
  | none=>none) N
def scE (run:Code→Fr→Hp→Nat→Option CR) (x:Code) (N:Nat):Code→Fr→Hp→Nat→Option CR :=
 Nat.rec (motive:=fun _=>Code→Fr→Hp→Nat→Option CR) (fun _ _ _ _=>none) (fun _ ih cur T L nx=>match run cur T L nx with
  | some (e,T',L',nx')=>match e with
    | .g l=>match findLabel x l with
      | some rest=>ih rest T' L' nx'
      | none=>some (.g l,T',L',nx')
    | e=>some (e,T',L',nx')
  | none=>none) N
def clrOf (o:Oper):Option (Nat×TypeId) :=
 match o.op with
 | .call cl=>match cl.callee with
   | .builtin b=>match b with
     | .clear=>match cl.args.toList with
       | [.tmp d]=>match cl.argTypes.toList with
         | [t]=>some (d,t)
         | _=>none
       | _=>none
     | _=>none
   | _=>none
 | _=>none
theorem clrOf_ok {o:Oper} {d:Nat} {t:TypeId} (h:clrOf o=some (d,t)):o.op = .call { callee := .builtin .clear,args := #[.tmp d],argTypes := #[t] }:=by
 unfold clrOf at h
 split at h
 ·rename_i cl ho
  split at h
  ·rename_i b hb
   split at h
   ·split at h
    ·rename_i d' hd
     split at h
     ·rename_i t' ht
      cases h
      rw [ho]
      obtain ⟨ca,ar,at'⟩:=cl
      simp only at hb hd ht
      subst hb
      have e1:ar = #[.tmp d]:=by rw [← Array.toArray_toList (xs:=ar),hd]
      have e2:at' = #[t]:=by rw [← Array.toArray_toList (xs:=at'),ht]
      rw [e1,e2]
     ·cases h
    ·cases h
   ·cases h
  ·cases h
 ·cases h
def slcOf (o:Oper):Option (TypeId×Operand×Operand) :=
 match o.op with
 | .slice t x lo hi mx=>match lo with
   | some x1=>match hi with
     | none=>match mx with
       | none=>some (t,x,x1)
       | some _=>none
     | some _=>none
   | none=>none
 | _=>none
theorem slcOf_ok {o:Oper} {t:TypeId} {x x1:Operand} (h:slcOf o=some (t,x,x1)):o.op = .slice t x (some x1) none none:=by
 unfold slcOf at h
 split at h
 ·rename_i ho
  split at h
  ·split at h
   ·split at h
    ·cases h;exact ho
    ·cases h
   ·cases h
  ·cases h
 ·cases h
def noG (o:Oper):Bool:=match o.guard with|none=>true|some _=>false
theorem noG_ok {o:Oper} (h:noG o=true):o.guard=none:=by
 unfold noG at h
 split at h
 ·assumption
 ·cases h
def isD (d:Nat) (o:Option Nat):Bool:=match o with|some x=>Nat.beq x d|none=>false
theorem isD_ok {d:Nat} {o:Option Nat} (h:isD d o=true):o=some d:=by
 unfold isD at h
 split at h
 ·rw [Nat.eq_of_beq_eq_true h]
 ·cases h
def noD (o:Option Nat):Bool:=match o with|some _=>false|none=>true
theorem noD_ok {o:Option Nat} (h:noD o=true):o=none:=by
 unfold noD at h
 split at h
 ·cases h
 ·rfl
def cntE (v:AV):Option Nat :=
 match v with
 | .d (.int k z)=>match k with
   | .i64=>zN z
   | _=>none
 | _=>none
theorem cntE_ok {v:AV} {q:Nat} (h:cntE v=some q):v = .d (.int .i64 (q:Int)):=by
 unfold cntE at h
 split at h
 ·split at h
  ·rw [zN_ok h]
  ·cases h
 ·cases h
def arrE (v:AV):Option Nat:=match v with | .arr i=>some i|_=>none
theorem arrE_ok {v:AV} {i:Nat} (h:arrE v=some i):v = .arr i:=by
 unfold arrE at h
 split at h
 ·cases h;rfl
 ·cases h
def zdsE (z:Value):List DV:=List.rec (motive:=fun _=>List DV) [] (fun x _ ih=>avOf1 x :: ih) z.cells.toList
def oneE (z:Value):Bool:=List.rec (motive:=fun _=>Bool) true (fun x _ ih=>match oneB x with|true=>ih|false=>false) z.cells.toList
theorem zdsE_ok (rd:Addr→Value→Prop) {z:Value} (h:oneE z=true):VDs rd (zdsE z) z.cells.toList:=by
 have e:zdsE z=z.cells.toList.map avOf1:=by
  unfold zdsE
  generalize z.cells.toList=l
  induction l with
  | nil=>rfl
  | cons x r ih =>
    show avOf1 x :: _=avOf1 x :: _
    rw [ih]
 have e2:z.cells.toList.all oneB=true:=by
  unfold oneE at h
  generalize z.cells.toList=l at h
  induction l with
  | nil=>rfl
  | cons x r ih =>
    replace h:(match oneB x with|true=>(List.rec (motive:=fun _=>Bool) true (fun x _ ih=>match oneB x with|true=>ih|false=>false) r:Bool)|false=>false)=true:=h
    cases hx:oneB x with
    | false=>rw [hx] at h;cases h
    | true =>
      rw [hx] at h
      rw [List.all_cons,hx,ih h];rfl
 rw [e]
 exact VDs_map rd _ e2
section
variable (P:Program) (tt:TypeId→Option TI) (n:Nat)
def crE (ops:List Oper) (T:Fr) (L:Hp):Option (Fr×Hp) :=
 match ops with
 | [o0,o1,o2,o3]=>match clrOf o3 with
   | some (d2,t)=>match slcOf o2 with
     | some (t',x0,x1)=>match (noG o0&&noG o1&&noG o2&&noG o3)&&(Nat.beq t' t&&dstOk n o0.dst&&dstOk n o1.dst)&&(isD d2 o2.dst&&Nat.blt d2 n&&noD o3.dst) with
       | true=>match opE P tt o0 T L with
         | some (v0,none)=>match arrE v0 with
           | some i=>match opE P tt o1 (tP T o0.dst (.arr i)) L with
             | some (v1,none)=>match cntE v1 with
               | some k=>match arrE (eT (tP (tP T o0.dst (.arr i)) o1.dst (.d (.int .i64 (Int.ofNat k)))) x0) with
                 | some i'=>match cntE (eT (tP (tP T o0.dst (.arr i)) o1.dst (.d (.int .i64 (Int.ofNat k)))) x1) with
                   | some k'=>match Nat.beq i' i&&Nat.beq k' k with
                     | true=>match hG L i with
                       | some (.row e m xs sh)=>match tt t with
                         | some ti=>match sliceElem ti.desc with
                           | some e'=>match tt e with
                             | some ei=>match !sh&&Nat.beq e' e&&Nat.beq ei.size m&&oneE ei.zero&&Nat.beq (zdsE ei.zero).length m&&Nat.ble k xs.length with
                               | true=>some (tP (tP (tP T o0.dst (.arr i)) o1.dst (.d (.int .i64 (Int.ofNat k)))) (some d2) (.d .any),hS L i (.row e m (xs.take k++List.replicate (xs.length - k) (zdsE ei.zero)) false))
                               | false=>none
                             | none=>none
                           | none=>none
                         | none=>none
                       | _=>none
                     | false=>none
                   | none=>none
                 | none=>none
               | none=>none
             | _=>none
           | none=>none
         | _=>none
       | false=>none
     | none=>none
   | none=>none
 | _=>none
end
theorem crE_ok {P:Program} {tt:TypeId→Option TI} {fo:FuncId→Bool} {n k0:Nat} (ht:TTok P tt) (hz:ZOok tt) (hfo:FOok P fo) {id:Nat} {ops:Array Oper} {T T':Fr} {L L':Hp} (h:crE P tt n ops.toList T L=some (T',L')) {ρ:Nat→Nat} {F:AF} (hF:Ag ρ T F) :
  AW P n k0 (.region id ops false) (fun x F' Lo=>x = .normal∧Ag ρ T' F'∧Lo=inH ρ L') F (inH ρ L):=by
 unfold crE at h
 split at h
 ·rename_i o0 o1 o2 o3 hops
  split at h
  ·rename_i d2 t hcl
   split at h
   ·rename_i t' x0 x1 hsl
    split at h
    ·rename_i hg
     split at h
     ·rename_i v0 hv0
      split at h
      ·rename_i i hi
       split at h
       ·rename_i v1 hv1
        split at h
        ·rename_i k hk
         split at h
         ·rename_i i' hi'
          split at h
          ·rename_i k' hk'
           split at h
           ·rename_i hb
            split at h
            ·rename_i e m xs sh hj
             split at h
             ·rename_i ti hti
              split at h
              ·rename_i e' he'
               split at h
               ·rename_i ei hei
                split at h
                ·rename_i hc
                 cases h
                 simp only [Bool.and_eq_true,Bool.not_eq_true'] at hg hb hc
                 obtain ⟨⟨⟨⟨⟨g0,g1⟩,g2⟩,g3⟩,⟨⟨b1,b2⟩,b3⟩⟩,⟨⟨b4,b5⟩,b6⟩⟩:=hg
                 obtain ⟨⟨⟨⟨⟨c1,c2⟩,c3⟩,c4⟩,c5⟩,c6⟩:=hc
                 subst c1
                 obtain rfl:=Nat.eq_of_beq_eq_true b1
                 obtain rfl:=Nat.eq_of_beq_eq_true c2
                 obtain rfl:=Nat.eq_of_beq_eq_true hb.1
                 obtain rfl:=Nat.eq_of_beq_eq_true hb.2
                 obtain rfl:=arrE_ok hi
                 obtain rfl:=cntE_ok hk
                 have hd2:=isD_ok b4
                 have hF1:=hF.put o0.dst (.arr i')
                 have hF2:=hF1.put o1.dst (.d (.int .i64 (Int.ofNat k')))
                 have hF3:=hF2.put (some d2) (.d .any)
                 have hdesc:ti.desc = .slice e':=by
                  revert he'
                  cases ti.desc<;>simp [sliceElem]
                 refine aw_clear ht hz hfo hops (L:=inH ρ L) (inH_at hj) (Nat.le_of_ble_eq_true c6) (noG_ok g0) (noG_ok g1) (noG_ok g2) (noG_ok g3) (dstOk_ok b2) (dstOk_ok b3) hd2 ((blt_iff _ _).1 b5) (noD_ok b6)
                  (opE_ok hF hv0 _ ⟨rfl,rfl⟩) (opE_ok hF1 hv1 _ ⟨rfl,rfl⟩) (slcOf_ok hsl) ?_ ?_ (clrOf_ok hcl) hti hdesc hei (Nat.eq_of_beq_eq_true c3) (zdsE ei.zero) (Nat.eq_of_beq_eq_true c5) (fun rd=>zdsE_ok rd c4) ?_
                 ·have:=eT_ok hF2 x0
                  rw [arrE_ok hi'] at this
                  exact this
                 ·have:=eT_ok hF2 x1
                  rw [cntE_ok hk'] at this
                  exact this
                 ·refine ⟨rfl,hF3,?_⟩
                  rw [inH_set]
                  rfl
                ·cases h
               ·cases h
              ·cases h
             ·cases h
            ·cases h
           ·cases h
          ·cases h
         ·cases h
        ·cases h
       ·cases h
      ·cases h
     ·cases h
    ·cases h
   ·cases h
  ·cases h
 ·cases h
section
variable {P:Program} {tt:TypeId→Option TI} {fo:FuncId→Bool} {n k0:Nat}
theorem aw_forget (ht:TTok P tt) (hz:ZOok tt) (hfo:FOok P fo) {id:Nat} {ops:Array Oper} {o0 o1 o2:Oper} (hops:ops.toList=[o0,o1,o2])
  {i k e m:Nat} {xs:List (List DV)} {sh:Bool} {t:TypeId} {F:AF} {L:List AB} {x0 x1:Operand} (hL:L[i]? = some (.row e m xs sh)) (hk:k≤xs.length)
  (g0:o0.guard=none) (g1:o1.guard=none) (g2:o2.guard=none) (q0:∀ x,o0.dst=some x→x<n) (q1:∀ x,o1.dst=some x→x<n) (q2:∀ x,o2.dst=some x→x<n)
  (h0:aopK P tt fo o0 F L fun v L'=>v = .arr i∧L'=L) (h1:aopK P tt fo o1 (fput F o0.dst (.arr i)) L fun v L'=>v = .d (.int .i64 k)∧L'=L)
  (p2:o2.op = .slice t x0 (some x1) none none) (e0:ev (fput (fput F o0.dst (.arr i)) o1.dst (.d (.int .i64 k))) x0 = .arr i) (e1:ev (fput (fput F o0.dst (.arr i)) o1.dst (.d (.int .i64 k))) x1 = .d (.int .i64 k))
  {ti:TI} (hti:tt t=some ti) {ei:TI} (he:ti.desc = .slice e) (hei:tt e=some ei) (hem:ei.size=m)
  {Q:Exit→AF→List AB→Prop} (hQ:Q .normal (fput (fput (fput F o0.dst (.arr i)) o1.dst (.d (.int .i64 k))) o2.dst (.d .any)) L) :
  AW P n k0 (.region id ops false) Q F L:=by
 intro c E a w hc hcn _ hs
 subst hcn
 refine wp_region_list ?_
 rw [hops]
 refine wpList_aop ht hz hfo hc g0 q0 h0 hs ?_
 rintro _ L1 E1 a1 w1 ⟨rfl,hL1⟩ hs1
 rw [hL1] at hs1
 refine wpList_aop ht hz hfo hc g1 q1 h1 hs1 ?_
 rintro _ L2 E2 a2 w2 ⟨rfl,hL2⟩ hs2
 rw [hL2] at hs2
 obtain ⟨hut,_⟩:=ht t ti hti
 obtain ⟨hue,info,j1,j2,j3,j4⟩:=ht e ei hei
 rw [he] at hut
 have v0:=hs2.ev x0
 rw [e0] at v0
 have v1:=hs2.ev x1
 rw [e1] at v1
 simp only [VR,VD] at v1
 obtain ⟨p,cap,har,hcap⟩:∃ p cap,a2.eval x0 = .slice p xs.length cap∧xs.length≤cap:=by
  simp only [VR] at v0
  obtain ⟨ab,hab,har⟩:=v0
  rw [hL] at hab
  cases hab
  obtain ⟨hn0,hxl,hbr⟩:=hs2.h.blk i _ hL
  cases hE:E2 i with
  | none =>
    rw [hE] at hbr
    replace hbr:xs=[]:=hbr
    subst hbr
    simp only [arRel,hE] at har
    exact ⟨none,0,har,Nat.le_refl _⟩
  | some b =>
    rw [hE] at hbr
    obtain ⟨cap0,cur0,b1,b2,b3,b4,b5⟩:=hbr
    simp only [arRel,hE] at har
    obtain ⟨cap,cur,har,hh,hsz⟩:=har
    have hcc:cur0=cur:=by rw [b1] at hh;cases hh;rfl
    rw [hcc] at b2
    have ecap:cap=cap0:=Nat.eq_of_mul_eq_mul_right hn0.1 (hsz.symm.trans b2)
    exact ⟨_,cap,har,by omega⟩
 have hb:=run_sliceBounds (P:=P) (w:=w2) true xs.length cap (some (.int .i64 (k:Int))) none k xs.length (by omega) (by omega) (by omega) hcap (.inr ⟨.i64,rfl⟩) (.inl ⟨rfl,rfl⟩)
 obtain ⟨r,hr⟩:∃ r,(Instr.sliceAt t (a2.eval x0) (some (.int .i64 k)) none none).run P w2 = .ok r w2:=by
  rw [har]
  unfold Instr.sliceAt
  simp only [Sem.run_bind,run_underlying hut,Result.andThen_ok]
  unfold Instr.slice
  simp only [Sem.run_bind,run_underlying hut,Result.andThen_ok,hb,run_sizeOf j1]
  exact ⟨_,rfl⟩
 refine wpList_plain g2 fun K2 hK2 => ?_
 unfold Oper.wp
 rw [show (execOp a2.eval o2).run P w2 = .ok (.value r) w2 by simp [execOp,p2,v1,hr]]
 refine hK2 _ _ ?_
 exact ⟨E2,_,_,hs2.put o2.dst (.d .any) r q2 (by simp [VR,VD]),hQ⟩
end
section
variable (P:Program) (tt:TypeId→Option TI) (n:Nat)
def fgE (ops:List Oper) (T:Fr) (L:Hp):Option Fr :=
 match ops with
 | [o0,o1,o2]=>match slcOf o2 with
   | some (t,x0,x1)=>match (noG o0&&noG o1&&noG o2)&&(dstOk n o0.dst&&dstOk n o1.dst&&dstOk n o2.dst) with
     | true=>match opE P tt o0 T L with
       | some (v0,none)=>match arrE v0 with
         | some i=>match opE P tt o1 (tP T o0.dst (.arr i)) L with
           | some (v1,none)=>match cntE v1 with
             | some k=>match arrE (eT (tP (tP T o0.dst (.arr i)) o1.dst (.d (.int .i64 (Int.ofNat k)))) x0) with
               | some i'=>match cntE (eT (tP (tP T o0.dst (.arr i)) o1.dst (.d (.int .i64 (Int.ofNat k)))) x1) with
                 | some k'=>match Nat.beq i' i&&Nat.beq k' k with
                   | true=>match hG L i with
                     | some (.row e m xs sh)=>match tt t with
                       | some ti=>match sliceElem ti.desc with
                         | some e'=>match tt e with
                           | some ei=>match Nat.beq e' e&&Nat.beq ei.size m&&Nat.ble k xs.length with
                             | true=>some (tP (tP (tP T o0.dst (.arr i)) o1.dst (.d (.int .i64 (Int.ofNat k)))) o2.dst (.d .any))
                             | false=>none
                           | none=>none
                         | none=>none
                       | none=>none
                     | _=>none
                   | false=>none
                 | none=>none
               | none=>none
             | none=>none
           | _=>none
         | none=>none
       | _=>none
     | false=>none
   | none=>none
 | _=>none
end
theorem fgE_ok {P:Program} {tt:TypeId→Option TI} {fo:FuncId→Bool} {n k0:Nat} (ht:TTok P tt) (hz:ZOok tt) (hfo:FOok P fo) {id:Nat} {ops:Array Oper} {T T':Fr} {L:Hp} (h:fgE P tt n ops.toList T L=some T') {ρ:Nat→Nat} {F:AF} (hF:Ag ρ T F) :
  AW P n k0 (.region id ops false) (fun x F' Lo=>x = .normal∧Ag ρ T' F'∧Lo=inH ρ L) F (inH ρ L):=by
 unfold fgE at h
 split at h
 ·rename_i o0 o1 o2 hops
  split at h
  ·rename_i t x0 x1 hsl
   split at h
   ·rename_i hg
    split at h
    ·rename_i v0 hv0
     split at h
     ·rename_i i hi
      split at h
      ·rename_i v1 hv1
       split at h
       ·rename_i k hk
        split at h
        ·rename_i i' hi'
         split at h
         ·rename_i k' hk'
          split at h
          ·rename_i hb
           split at h
           ·rename_i e m xs sh hj
            split at h
            ·rename_i ti hti
             split at h
             ·rename_i e' he'
              split at h
              ·rename_i ei hei
               split at h
               ·rename_i hc
                cases h
                simp only [Bool.and_eq_true] at hg hb hc
                obtain ⟨⟨⟨g0,g1⟩,g2⟩,⟨⟨b2,b3⟩,b4⟩⟩:=hg
                obtain ⟨⟨c2,c3⟩,c6⟩:=hc
                obtain rfl:=Nat.eq_of_beq_eq_true c2
                obtain rfl:=Nat.eq_of_beq_eq_true hb.1
                obtain rfl:=Nat.eq_of_beq_eq_true hb.2
                obtain rfl:=arrE_ok hi
                obtain rfl:=cntE_ok hk
                have hF1:=hF.put o0.dst (.arr i')
                have hF2:=hF1.put o1.dst (.d (.int .i64 (Int.ofNat k')))
                have hF3:=hF2.put o2.dst (.d .any)
                have hdesc:ti.desc = .slice e':=by
                 revert he'
                 cases ti.desc<;>simp [sliceElem]
                refine aw_forget ht hz hfo hops (L:=inH ρ L) (inH_at hj) (Nat.le_of_ble_eq_true c6) (noG_ok g0) (noG_ok g1) (noG_ok g2) (dstOk_ok b2) (dstOk_ok b3) (dstOk_ok b4)
                 (opE_ok hF hv0 _ ⟨rfl,rfl⟩) (opE_ok hF1 hv1 _ ⟨rfl,rfl⟩) (slcOf_ok hsl) ?_ ?_ hti hdesc hei (Nat.eq_of_beq_eq_true c3) ?_
                ·have:=eT_ok hF2 x0
                 rw [arrE_ok hi'] at this
                 exact this
                ·have:=eT_ok hF2 x1
                 rw [cntE_ok hk'] at this
                 exact this
                ·exact ⟨rfl,hF3,rfl⟩
               ·cases h
              ·cases h
             ·cases h
            ·cases h
           ·cases h
          ·cases h
         ·cases h
        ·cases h
       ·cases h
      ·cases h
     ·cases h
    ·cases h
   ·cases h
  ·cases h
 ·cases h
section
variable (P:Program) (tt:TypeId→Option TI) (n:Nat)
def spE (ops:List Oper) (T:Fr) (L:Hp):Option (Fr×Hp) :=
 match ops with
 | [_,_,_]=>match fgE P tt n ops T L with
   | some T'=>some (T',L)
   | none=>none
 | [_,_,_,_]=>crE P tt n ops T L
 | _=>none
end
theorem spE_ok {P:Program} {tt:TypeId→Option TI} {fo:FuncId→Bool} {n k0:Nat} (ht:TTok P tt) (hz:ZOok tt) (hfo:FOok P fo) {id:Nat} {ops:Array Oper} {T T':Fr} {L L':Hp} (h:spE P tt n ops.toList T L=some (T',L')) {ρ:Nat→Nat} {F:AF} (hF:Ag ρ T F) :
  AW P n k0 (.region id ops false) (fun x F' Lo=>x = .normal∧Ag ρ T' F'∧Lo=inH ρ L') F (inH ρ L):=by
 unfold spE at h
 split at h
 ·rename_i hops
  split at h
  ·rename_i T1 h1
   cases h
   exact fgE_ok ht hz hfo h1 hF
  ·cases h
 ·rename_i hops
  exact crE_ok ht hz hfo h hF
 ·cases h
section
variable (cal:Cal) (P:Program) (tt:TypeId→Option TI) (fo:FuncId→Bool) (n:Nat) (pls:Nat→Option Plan)
def cdE (d:Nat):Code→Fr→Hp→Nat→Option CR :=
 Nat.rec (motive:=fun _=>Code→Fr→Hp→Nat→Option CR) (fun _ _ _ _=>none) (fun _ ih code T L nx=>match code with
  | .skip=>some (.n,T,L,nx)
  | .region id ops draw=>match draw with
    | false=>match spE P tt n ops.toList T L with
      | some (T',L')=>some (.n,T',L',nx)
      | none=>match rgE cal P tt fo n ops.toList ops.toList T L nx with
        | some (T',L',nx')=>some (.n,T',L',nx')
        | none=>none
    | true=>match pls id with
      | some pl=>match drE cal P tt fo n ops.toList pl T L nx with
        | some (T',L',nx')=>some (.n,T',L',nx')
        | none=>none
      | none=>none
  | .seq x y=>match ih x T L nx with
    | some (e,T',L',nx')=>match e with
      | .n=>ih y T' L' nx'
      | e=>some (e,T',L',nx')
    | none=>none
  | .cond c x y=>match eT T c with
    | .d (.bool t)=>match t with
      | true=>ih x T L nx
      | false=>ih y T L nx
    | _=>none
  | .block id x=>match ih x T L nx with
    | some (e,T',L',nx')=>match e with
      | .x id'=>match Nat.beq id' id with
        | true=>some (.n,T',L',nx')
        | false=>some (.x id',T',L',nx')
      | e=>some (e,T',L',nx')
    | none=>none
  | .loop x=>lpE (ih x) bigN T L nx
  | .exit id=>some (.x id,T,L,nx)
  | .ret=>some (.r,T,L,nx)
  | .goto l=>some (.g l,T,L,nx)
  | .label _=>some (.n,T,L,nx)
  | .scope x=>scE ih x bigN x T L nx
  | _=>none) d
end
section
variable {cal:Cal} {P:Program} {tt:TypeId→Option TI} {fo:FuncId→Bool} {n:Nat} {pls:Nat→Option Plan}
def PlOk (pls:Nat→Option Plan):Code→Prop
 | .region id ops draw=>draw=true→∀ pl,pls id=some pl→planB ops.toList pl=true
 | .seq a b=>PlOk pls a∧PlOk pls b
 | .cond _ a b=>PlOk pls a∧PlOk pls b
 | .block _ c=>PlOk pls c
 | .loop c=>PlOk pls c
 | .scope c=>PlOk pls c
 | _=>True
theorem PlOk.rest {pls:Nat→Option Plan}:∀ {x:Code},PlOk pls x→∀ {l:Nat} {rest:Code},findLabel x l=some rest→PlOk pls rest
 | .seq a b,h,l,rest,k=>by
   unfold findLabel at k
   split at k
   ·rename_i r hr
    cases k
    exact ⟨PlOk.rest h.1 hr,h.2⟩
   ·exact PlOk.rest h.2 k
 | .label l',h,l,rest,k=>by
   unfold findLabel at k
   split at k
   ·cases k;trivial
   ·cases k
 | .skip,_,_,_,k=>by cases k
 | .region _ _ _,_,_,_,k=>by cases k
 | .cond _ _ _,_,_,_,k=>by cases k
 | .block _ _,_,_,_,k=>by cases k
 | .loop _,_,_,_,k=>by cases k
 | .rangeFunc _ _ _ _,_,_,_,k=>by cases k
 | .exit _,_,_,_,k=>by cases k
 | .scope _,_,_,_,k=>by cases k
 | .goto _,_,_,_,k=>by cases k
 | .ret,_,_,_,k=>by cases k
 | .refuse _,_,_,_,k=>by cases k
def PW (nx:Nat) (ρ:Nat→Nat) (r:CR) (e:Exit) (F:AF) (Lo:List AB):Prop:=e=r.1.out∧∃ ρ',Ext nx r.2.2.2 ρ ρ'∧Ag ρ' r.2.1 F∧Lo=inH ρ' r.2.2.1
theorem PW.on {a b:Nat} {ρ ρ1:Nat→Nat} {r:CR} {e:Exit} {F:AF} {Lo:List AB} (h:Ext a b ρ ρ1) (k:PW b ρ1 r e F Lo):PW a ρ r e F Lo:=by
 obtain ⟨h1,ρ',h2,h3,h4⟩:=k
 exact ⟨h1,ρ',h.trans h2,h3,h4⟩
def RunOk (P:Program) (n:Nat) (code:Code) (run:Fr→Hp→Nat→Option CR):Prop:=∀ T L nx r,run T L nx=some r→∀ (ρ:Nat→Nat) (F:AF) (k0:Nat),Ag ρ T F→AW P n k0 code (PW nx ρ r) F (inH ρ L)
theorem lpE_ok {x:Code} {run:Fr→Hp→Nat→Option CR} (hx:RunOk P n x run) {k0:Nat} {c:Ctx} (hc:c.wf) (hcn:c.n=n) (hk:c.L0.length=k0):∀ (N:Nat) (T:Fr) (L:Hp) (nx:Nat) (r:CR),lpE run N T L nx=some r→∀ (ρ:Nat→Nat) (F:AF) (E:Nat→Option Nat) (a:Act) (w:World),Ag ρ T F→Sim c E F (inH ρ L) a w →
  Code.rounds P x (fun e a' w'=>∃ E' F' L',Sim c E' F' L' a' w'∧PW nx ρ r e F' L') N a w
 | 0,T,L,nx,r,h,_,_,_,_,_,_,_=>by cases (show (none:Option CR)=some r from h)
 | N+1,T,L,nx,r,h,ρ,F,E,a,w,hF,hs=>by
   replace h:(match run T L nx with
   | some (e,T',L',nx')=>match e with
     | .n=>lpE run N T' L' nx'
     | e=>some (e,T',L',nx')
   | none=>none)=some r:=h
   rw [rounds_succ]
   split at h
   ·rename_i e T' L' nx' hr
    refine wp_mono (hx T L nx _ hr ρ F k0 hF c E a w hc hcn hk hs) ?_
    rintro e1 a' w' ⟨E',F',L1,hs',rfl,ρ',h1,h2,rfl⟩
    have hdone:e ≠ .n→(match e with
    | .n=>lpE run N T' L' nx'
    | e=>some (e,T',L',nx'))=some r→∃ E2 F2 L2,Sim c E2 F2 L2 a' w'∧PW nx ρ r e.out F2 L2:=by
      intro hne h
      have:some (e,T',L',nx')=some r:=by
       rw [← h]
       cases e<;>first|rfl|exact absurd rfl hne
      cases this
      exact ⟨E',F',_,hs',rfl,ρ',h1,h2,rfl⟩
    cases e with
    | n =>
      have:=lpE_ok hx hc hcn hk N T' L' nx' r h ρ' F' E' a' w' h2 hs'
      exact rounds_mono (fun e a w ⟨E2,F2,L2,q1,q2⟩=>⟨E2,F2,L2,q1,q2.on h1⟩) this
    | x id=>exact hdone (by simp) h
    | g l=>exact hdone (by simp) h
    | r=>exact hdone (by simp) h
   ·cases h
where
 rounds_mono {x:Code} {Q Q':Exit→Act→World→Prop} (hq:∀ e a w,Q e a w→Q' e a w):∀ {N:Nat} {a:Act} {w:World},Code.rounds P x Q N a w→Code.rounds P x Q' N a w
  | 0,_,_,h=>h.elim
  | N+1,a,w,h=>by
    rw [rounds_succ] at h ⊢
    refine wp_mono h ?_
    intro e a' w' h2
    cases e with
    | normal=>exact rounds_mono hq h2
    | exit id=>exact hq _ _ _ h2
    | goto l=>exact hq _ _ _ h2
    | ret=>exact hq _ _ _ h2
    | panic ch=>exact hq _ _ _ h2
    | outgrown=>exact hq _ _ _ h2
theorem scE_ok {x:Code} {run:Code→Fr→Hp→Nat→Option CR} (hp:PlOk pls x) (hx:∀ code,PlOk pls code→RunOk P n code (run code)) {k0:Nat} {c:Ctx} (hc:c.wf) (hcn:c.n=n) (hk:c.L0.length=k0) {b:Frame} {k:List Item} {cs:List Frame}:∀ (N:Nat) (cur:Code) (T:Fr) (L:Hp) (nx:Nat) (r:CR),PlOk pls cur→scE run x N cur T L nx=some r→∀ (ρ:Nat→Nat) (F:AF) (E:Nat→Option Nat) (a:Act) (w:World),Ag ρ T F→Sim c E F (inH ρ L) a w →
  ∃ e a' w',(∃ E' F' L',Sim c E' F' L' a' w'∧PW nx ρ r e F' L')∧Arrives P (lone (b.at a (.code cur :: .inScope x :: k)) cs w) b k cs e a' w'
 | 0,cur,T,L,nx,r,_,h,_,_,_,_,_,_,_=>by cases (show (none:Option CR)=some r from h)
 | N+1,cur,T,L,nx,r,hpc,h,ρ,F,E,a,w,hF,hs=>by
   have hg:∀ l rest,findLabel x l=some rest→gotoIn l (.inScope x :: k)=some (.code rest :: .inScope x :: k):=fun l rest hf=>by simp [gotoIn,hf]
   have hg0:∀ l,findLabel x l=none→gotoIn l (.inScope x :: k)=gotoIn l k:=fun l hf=>by simp [gotoIn,hf]
   replace h:(match run cur T L nx with
   | some (e,T',L',nx')=>match e with
     | .g l=>match findLabel x l with
       | some rest=>scE run x N rest T' L' nx'
       | none=>some (.g l,T',L',nx')
     | e=>some (e,T',L',nx')
   | none=>none)=some r:=h
   split at h
   ·rename_i e T' L' nx' hr
    obtain ⟨e1,a₁,w₁,⟨E',F',L1,hs',rfl,ρ',h1,h2,rfl⟩,harr⟩:=hx cur hpc T L nx _ hr ρ F k0 hF c E a w hc hcn hk hs b (.inScope x :: k) cs
    cases e with
    | n =>
      cases h
      exact ⟨.normal,a₁,w₁,⟨E',F',_,hs',rfl,ρ',h1,h2,rfl⟩,Steps.trans harr (.one step_inScope)⟩
    | x id =>
      cases h
      exact ⟨.exit id,a₁,w₁,⟨E',F',_,hs',rfl,ρ',h1,h2,rfl⟩,fun k' hk'=>harr k' (by simp [exitTo,hk'])⟩
    | r =>
      cases h
      exact ⟨.ret,a₁,w₁,⟨E',F',_,hs',rfl,ρ',h1,h2,rfl⟩,harr⟩
    | g l =>
      simp only at h
      split at h
      ·rename_i rest hf
       obtain ⟨e₂,a₂,w₂,⟨E2,F2,L2,q1,q2⟩,harr₂⟩:=scE_ok hp hx hc hcn hk N rest T' L' nx' r (hp.rest hf) h ρ' F' E' a₁ w₁ h2 hs'
       exact ⟨e₂,a₂,w₂,⟨E2,F2,L2,q1,q2.on h1⟩,.of_steps (harr _ (hg l rest hf)) harr₂⟩
      ·rename_i hf
       cases h
       exact ⟨.goto l,a₁,w₁,⟨E',F',_,hs',rfl,ρ',h1,h2,rfl⟩,fun k' hk'=>harr k' (by rw [hg0 l hf];exact hk')⟩
   ·cases h
theorem cdE_ok (ht:TTok P tt) (hz:ZOok tt) (hfo:FOok P fo) (hm:P.follows .mixedOrders=true) (hcal:CalOk P cal):∀ (d:Nat) (code:Code),PlOk pls code→RunOk P n code (cdE cal P tt fo n pls d code)
 | 0,code,_,T,L,nx,r,h,_,_,_,_=>by cases (show (none:Option CR)=some r from h)
 | d+1,code,hp,T,L,nx,r,h,ρ,F,k0,hF=>by
   have ih:=cdE_ok ht hz hfo hm hcal d
   have rf:PW nx ρ (.n,T,L,nx) .normal F (inH ρ L):=⟨rfl,ρ,Ext.refl ..,hF,rfl⟩
   cases code with
   | skip =>
     cases (show some (XE.n,T,L,nx)=some r from h)
     exact fun c E a w _ _ _ hs=>wp_skip ⟨E,F,_,hs,rf⟩
   | region id ops draw =>
     cases draw with
     | false =>
       replace h:(match spE P tt n ops.toList T L with
       | some (T',L')=>some (XE.n,T',L',nx)
       | none=>match rgE cal P tt fo n ops.toList ops.toList T L nx with
         | some (T',L',nx')=>some (XE.n,T',L',nx')
         | none=>none)=some r:=h
       split at h
       ·rename_i T' L' hr
        cases h
        refine (spE_ok ht hz hfo hr hF (k0:=k0) (id:=id)).mono ?_
        rintro e F' Lo ⟨rfl,k1,rfl⟩
        exact ⟨rfl,ρ,Ext.refl ..,k1,rfl⟩
       split at h
       ·rename_i T' L' nx' hr
        cases h
        intro c E a w hc hcn _ hs
        refine wp_region_list ?_
        have:=rgE_ok (Q:=fun x a' w'=>∃ E' F' Lo,Sim c E' F' Lo a' w'∧PW nx ρ (.n,T',L',nx') x F' Lo) ht hz hfo hcal hc hcn hr hF hs (fun ρ' E' F' a' w' k1 k2 k3=>⟨E',F',_,k3,rfl,ρ',k1,k2,rfl⟩)
        rw [Array.toArray_toList] at this
        exact this
       ·cases h
     | true =>
       replace h:(match pls id with
       | some pl=>match drE cal P tt fo n ops.toList pl T L nx with
         | some (T',L',nx')=>some (XE.n,T',L',nx')
         | none=>none
       | none=>none)=some r:=h
       split at h
       ·rename_i pl hpl
        split at h
        ·rename_i T' L' nx' hr
         cases h
         refine (drE_ok ht hz hfo hm hcal (hp rfl pl hpl) hr hF (k0:=k0) (id:=id)).mono ?_
         rintro e F' Lo ⟨rfl,ρ',k1,k2,rfl⟩
         exact ⟨rfl,ρ',k1,k2,rfl⟩
        ·cases h
       ·cases h
   | seq x y =>
     replace h:(match cdE cal P tt fo n pls d x T L nx with
     | some (e,T',L',nx')=>match e with
       | .n=>cdE cal P tt fo n pls d y T' L' nx'
       | e=>some (e,T',L',nx')
     | none=>none)=some r:=h
     split at h
     ·rename_i e T' L' nx' hr
      intro c E a w hc hcn hk hs
      refine wp_seq (wp_mono (ih x hp.1 T L nx _ hr ρ F k0 hF c E a w hc hcn hk hs) ?_)
      rintro e1 a' w' ⟨E',F',Lo,hs',rfl,ρ',h1,h2,rfl⟩
      cases e with
      | n =>
        refine wp_mono (ih y hp.2 T' L' nx' r h ρ' F' k0 h2 c E' a' w' hc hcn hk hs') ?_
        rintro e2 a2 w2 ⟨E2,F2,L2,q1,q2⟩
        exact ⟨E2,F2,L2,q1,q2.on h1⟩
      | x id=>cases h;exact ⟨E',F',_,hs',rfl,ρ',h1,h2,rfl⟩
      | g l=>cases h;exact ⟨E',F',_,hs',rfl,ρ',h1,h2,rfl⟩
      | r=>cases h;exact ⟨E',F',_,hs',rfl,ρ',h1,h2,rfl⟩
     ·cases h
   | cond cx x y =>
     replace h:(match eT T cx with
     | .d (.bool t)=>match t with
       | true=>cdE cal P tt fo n pls d x T L nx
       | false=>cdE cal P tt fo n pls d y T L nx
     | _=>none)=some r:=h
     split at h
     ·rename_i t ht'
      intro c E a w hc hcn hk hs
      have hb:=hs.ev cx
      rw [eT_ok hF,ht'] at hb
      replace hb:a.eval cx = .bool t:=by simpa only [inA,VR,VD] using hb
      refine wp_cond hb ?_
      cases t with
      | true=>exact ih x hp.1 T L nx r h ρ F k0 hF c E a w hc hcn hk hs
      | false=>exact ih y hp.2 T L nx r h ρ F k0 hF c E a w hc hcn hk hs
     ·cases h
   | block id x =>
     replace h:(match cdE cal P tt fo n pls d x T L nx with
     | some (e,T',L',nx')=>match e with
       | .x id'=>match Nat.beq id' id with
         | true=>some (XE.n,T',L',nx')
         | false=>some (.x id',T',L',nx')
       | e=>some (e,T',L',nx')
     | none=>none)=some r:=h
     split at h
     ·rename_i e T' L' nx' hr
      intro c E a w hc hcn hk hs
      refine wp_block (wp_mono (ih x hp T L nx _ hr ρ F k0 hF c E a w hc hcn hk hs) ?_)
      rintro e1 a' w' ⟨E',F',Lo,hs',rfl,ρ',h1,h2,rfl⟩
      cases e with
      | n=>cases h;exact ⟨E',F',_,hs',rfl,ρ',h1,h2,rfl⟩
      | x id' =>
        simp only [XE.out,Exit.inBlock]
        simp only at h
        split at h
        ·rename_i hb
         cases h
         rw [if_pos (Nat.eq_of_beq_eq_true hb)]
         exact ⟨E',F',_,hs',rfl,ρ',h1,h2,rfl⟩
        ·rename_i hb
         cases h
         rw [if_neg (fun e=>by rw [e,Nat.beq_refl] at hb;cases hb)]
         exact ⟨E',F',_,hs',rfl,ρ',h1,h2,rfl⟩
      | g l=>cases h;exact ⟨E',F',_,hs',rfl,ρ',h1,h2,rfl⟩
      | r=>cases h;exact ⟨E',F',_,hs',rfl,ρ',h1,h2,rfl⟩
     ·cases h
   | loop x =>
     replace h:lpE (cdE cal P tt fo n pls d x) bigN T L nx=some r:=h
     generalize bigN=N at h
     intro c E a w hc hcn hk hs
     exact wp_loop_rounds N (lpE_ok (ih x hp) hc hcn hk N T L nx r h ρ F E a w hF hs)
   | exit id =>
     cases (show some (XE.x id,T,L,nx)=some r from h)
     exact fun c E a w _ _ _ hs=>wp_exit ⟨E,F,_,hs,rfl,ρ,Ext.refl ..,hF,rfl⟩
   | ret =>
     cases (show some (XE.r,T,L,nx)=some r from h)
     exact fun c E a w _ _ _ hs=>wp_ret ⟨E,F,_,hs,rfl,ρ,Ext.refl ..,hF,rfl⟩
   | goto l =>
     cases (show some (XE.g l,T,L,nx)=some r from h)
     exact fun c E a w _ _ _ hs=>wp_goto ⟨E,F,_,hs,rfl,ρ,Ext.refl ..,hF,rfl⟩
   | label l =>
     cases (show some (XE.n,T,L,nx)=some r from h)
     exact fun c E a w _ _ _ hs=>wp_label ⟨E,F,_,hs,rf⟩
   | scope x =>
     replace h:scE (cdE cal P tt fo n pls d) x bigN x T L nx=some r:=h
     generalize bigN=N at h
     intro c E a w hc hcn hk hs b k cs
     obtain ⟨e₂,a₂,w₂,hq,harr₂⟩:=scE_ok (pls:=pls) (x:=x) hp ih hc hcn hk (b:=b) (k:=k) (cs:=cs) N x T L nx r hp h ρ F E a w hF hs
     exact ⟨e₂,a₂,w₂,hq,.of_steps (.one step_scope) harr₂⟩
   | rangeFunc _ _ _ _=>cases (show (none:Option CR)=some r from h)
   | refuse _=>cases (show (none:Option CR)=some r from h)
end
end
end Go.Ab
