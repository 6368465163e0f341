/- NodeFormsCard: abstract runs. -/
import Derived.Lib.AppendStr
import Derived.Laws.MakeOwn
import Derived.Laws.StructEq
import Derived.Test.YtgkhgapkfnkagaaGreatDoorNodeFormsCardLayC
import Derived.MapKept
import GoSem.Instr.MapUpdate
import GoSem.Builtin.Delete
import Derived.Lib.AppendZerosOnto
import Derived.Laws.CopyRow
set_option linter.unusedVariables false
set_option linter.unusedSimpArgs false
namespace Go.Ab
noncomputable section
open Go.RowKit
def fEnd (ix:List Nat) (n0 base:Nat) (E E':Nat→Option Nat):Nat→Option Nat:=fun i =>
 if base≤i then E' (n0+(i - base)) else match posN ix i 0 with|some j=>E' j|none=>E i
theorem posN_some {ix:List Nat} (hnd:ix.Nodup) {i j:Nat} (h:ix[j]? = some i):posN ix i 0=some j:=by
 cases hp:posN ix i 0 with
 | some m =>
   obtain ⟨m',h1,h2⟩:=posN_ok hp
   rw [Nat.zero_add] at h2;subst h2
   rw [nodup_inj hnd h h1]
 | none =>
   exfalso
   have key:∀ (l:List Nat) (k j:Nat),l[j]? = some i→posN l i k≠none:=by
    intro l
    induction l with
    | nil=>intro k j h;simp at h
    | cons a l ih =>
      intro k j h
      simp only [posN]
      cases hb:Nat.beq a i with
      | true=>simp
      | false =>
        cases j with
        | zero=>simp at h;subst h;rw [Nat.beq_refl] at hb;cases hb
        | succ j=>exact ih (k+1) j (by simpa using h)
   exact key ix 0 j h hp
theorem posN_mem {ix:List Nat} {i j:Nat} (h:posN ix i 0=some j):ix[j]? = some i:=by
 obtain ⟨m,h1,h2⟩:=posN_ok h
 rw [Nat.zero_add] at h2;rw [h2];exact h1
theorem posN_none {ix:List Nat} {i:Nat} (h:i∉ix):posN ix i 0=none:=by
 cases hp:posN ix i 0 with
 | none=>rfl
 | some j=>exact absurd (List.mem_of_getElem? (posN_mem hp)) h
theorem renAB_row {rho:Nat→Option Nat} {ab:AB} {e n:Nat} {xs:List (List DV)} {sh:Bool} (h:renAB rho ab=some (.row e n xs sh)):∃ sh',ab = .row e n xs sh':=by
 cases ab<;>simp only [renAB] at h
 all_goals first|(cases h;exact ⟨_,rfl⟩)|(split at h<;>cases h)|cases h
set_option maxHeartbeats 1000000 in
theorem callRawK_ok {P:Program} {f:FuncId} {c:Ctx} (hc:c.wf) {E:Nat→Option Nat} {L1:List AB} {w:World} (hs1:SimH c E L1 w) {avs1:List AV} {K:AV→List AB→Prop} (h1:callRawK P f avs1 L1 K)
  {vs:Array Value} (hv1:VRt (rcOf c.M0 E L1 w) avs1 vs.toList) :
  Calls P f vs w fun e w'=>∃ v av E' L',e = .returned v∧K av L'∧SimH c E' L' w'∧(rcOf c.M0 E L1 w).le (rcOf c.M0 E' L' w')∧VR (rcOf c.M0 E' L' w') av v:=by
 obtain ⟨ix0,h2⟩:=idsKs_ok _ _ _ h1
 obtain ⟨ix,h3⟩:=reachK_ok h2
 cases hnd0:nodupB ix with
 | false=>rw [hnd0] at h3;exact h3.elim
 | true =>
   rw [hnd0] at h3
   simp only [cond_true] at h3
   have hnd:=nodupB_ok hnd0
   split at h3
   ·rename_i avs2 Lin hren hlin
    have h4:=fL_ok (fAs_ok _ _ h3)
    clear h3 h2 h1
    obtain ⟨hlen,hlook⟩:=linA_ok hlin
    have hixlt:∀ i∈ix,i<L1.length:=by
     intro i hi
     obtain ⟨j,hj⟩:=List.mem_iff_getElem?.1 hi
     obtain ⟨ab,_,h5,_⟩:=hlook j i hj
     exact (List.getElem?_eq_some_iff.1 h5).1
    -- the callee's own ground
    let P0':Nat→Prop:=fun b=>b<w.heap.size∧∀ (i:Nat) (ab:AB),i∈ix→L1[i]? = some ab→(ab.live=true→E i≠some b)∧b∉ab.boxes
    let M0':MZ:=⟨fun b o=>P0' b∧Mut c.M0 E L1 b o,c.M0.s⟩
    have hP0:∀ b,c.P0 b→P0' b:=by
     intro b hb
     refine ⟨Nat.lt_of_lt_of_le (hc.low b hb) hs1.size,fun i ab hi hab=>⟨fun hl he=>hs1.low i ab b hab hl he hb,fun hbx=>hs1.bx.low i ab b hab hbx hb⟩⟩
    have hM:∀ b o,M0' b o→Mut c.M0 E L1 b o:=fun b o h=>h.2
    have hleads:=sub_leads (w:=w) hlin hM rfl
    obtain ⟨hblk,hlow,hinj,hboxy⟩:=sub_blocks hs1 hnd hlin hM rfl
    let c':Ctx:={ w0:=w,P0:=P0',M0:=M0',E0:=Esub E ix,L0:=Lin,n:=0 }
    have hc':c'.wf:=⟨fun b hb=>hb.1,fun b o h=>h.1,fun s hs=>Nat.le_trans (hc.sle s hs) hs1.size⟩
    have hsim':SimH c' c'.E0 Lin c'.w0:=by
     refine ⟨rfl,rfl,rfl,Nat.le_refl _,fun _ _=>rfl,hblk,?_,hinj,.refl _,hboxy _ fun b hp j ab hj hb => ?_,.refl _,fun s0 hs0 j e1 m1 ys sh1 b hj he => ?_⟩
     rotate_right
     ·have hjl:j<ix.length:=by rw [← hlen];exact (List.getElem?_eq_some_iff.1 hj).1
      obtain ⟨ab1,ab2,h3,h4,h5⟩:=hlook j ix[j] (List.getElem?_eq_getElem hjl)
      rw [hj] at h4;cases h4
      obtain ⟨sh2,rfl⟩:=renAB_row h5
      refine hs1.up s0 hs0 ix[j] _ _ _ _ b h3 ?_
      have he':Esub E ix j=some b:=he
      simpa [Esub,List.getElem?_eq_getElem hjl] using he'
     rotate_left
     ·have hjl:j<ix.length:=by rw [← hlen];exact (List.getElem?_eq_some_iff.1 hj).1
      obtain ⟨ab1,ab2,h3,h4,h5⟩:=hlook j ix[j] (List.getElem?_eq_getElem hjl)
      rw [hj] at h4;cases h4
      exact (hp.2 ix[j] ab1 (List.getElem_mem hjl) h3).2 (by rw [← (renAB_alike h5).boxes];exact hb)
     intro j ab b hj hl he hp
     obtain ⟨i,ab0,k1,k2,k3,k4⟩:=hlow j ab b hj hl he
     exact (hp.2 i ab0 (List.mem_of_getElem? k1) k2).1 k3 k4
    have hargs:VRt (rcOf c'.M0 c'.E0 Lin c'.w0) avs2 vs.toList:=(renAs_ok hleads avs1 avs2 hren).2 _ hv1
    refine (h4 c' vs hc' rfl hsim' hargs).mono ?_
    rintro e w' ⟨v,av,Lout,E',rfl,hpost,hsE,hvE⟩
    clear h4
    have hpost:=litK_ok hpost
    split at hpost
    ·rename_i Lo av' hLo hav'
     split at hpost
     ·rename_i L2 hmerge
      have hK:=fA_ok _ _ (fL_ok hpost)
      clear hpost
      unfold mergeA at hmerge
      cases hble:Nat.ble ix.length Lo.length with
      | false=>rw [hble] at hmerge;cases hmerge
      | true =>
        rw [hble] at hmerge
        simp only [cond_true,Option.some.injEq] at hmerge
        have hle0:ix.length≤Lo.length:=Nat.le_of_ble_eq_true hble
        obtain ⟨hLol,hLoook⟩:=renL_ok hLo
        let E2:=fEnd ix ix.length L1.length E E'
        have hSl:(sets ix Lo L1).length=L1.length:=sets_length ix Lo L1
        -- what stands at each number
        have look:∀ i ab,L2[i]? = some ab→(∃ j ab0,Lout[j]? = some ab0∧renAB (unN ix L1.length) ab0=some ab∧E2 i=E' j∧unN ix L1.length j=some i)∨(i∉ix∧L1[i]? = some ab∧E2 i=E i):=by
         intro i ab hi
         rw [← hmerge] at hi
         rcases Nat.lt_or_ge i L1.length with hlt|hge
         ·rw [List.getElem?_append_left (by rw [hSl];exact hlt)] at hi
          by_cases him:i∈ix
          ·obtain ⟨j,hj⟩:=List.mem_iff_getElem?.1 him
           rw [sets_at ix Lo L1 hnd hixlt hle0 j i hj] at hi
           obtain ⟨ab0,h5,h6⟩:=hLoook j ab hi
           refine .inl ⟨j,ab0,h5,h6,?_,by simp only [unN,hj]⟩
           show fEnd ix ix.length L1.length E E' i=_
           unfold fEnd
           rw [if_neg (by omega),posN_some hnd hj]
          ·rw [sets_other ix Lo L1 i him] at hi
           refine .inr ⟨him,hi,?_⟩
           show fEnd ix ix.length L1.length E E' i=_
           unfold fEnd
           rw [if_neg (by omega),posN_none him]
         ·rw [List.getElem?_append_right (by rw [hSl];exact hge),hSl,List.getElem?_drop] at hi
          obtain ⟨ab0,h5,h6⟩:=hLoook _ ab hi
          refine .inl ⟨ix.length+(i - L1.length),ab0,h5,h6,?_,?_⟩
          ·show fEnd ix ix.length L1.length E E' i=_
           unfold fEnd
           rw [if_pos hge]
          ·have hn:ix[ix.length+(i - L1.length)]? = none:=by rw [List.getElem?_eq_none (by omega)]
           simp only [unN,hn]
           congr 1
           omega
        -- and back
        have back:∀ j i,unN ix L1.length j=some i→∀ ab0,Lout[j]? = some ab0→∃ ab,L2[i]? = some ab∧renAB (unN ix L1.length) ab0=some ab∧E2 i=E' j:=by
         intro j i hji ab0 hab0
         have hjl:j<Lo.length:=by rw [hLol];exact (List.getElem?_eq_some_iff.1 hab0).1
         have hL2:L2[i]? = Lo[j]? ∧ E2 i=E' j:=by
          unfold unN at hji
          split at hji
          ·rename_i i' hi'
           cases hji
           have hil:=hixlt i (List.mem_of_getElem? hi')
           constructor
           ·rw [← hmerge,List.getElem?_append_left (by rw [hSl];exact hil),sets_at ix Lo L1 hnd hixlt hle0 j i hi']
           ·show fEnd ix ix.length L1.length E E' i=_
            unfold fEnd
            rw [if_neg (by omega),posN_some hnd hi']
          ·rename_i hn
           cases hji
           have hge:ix.length≤j:=by
            rcases Nat.lt_or_ge j ix.length with h|h
            ·rw [List.getElem?_eq_getElem h] at hn;cases hn
            ·exact h
           constructor
           ·rw [← hmerge,List.getElem?_append_right (by rw [hSl];omega),hSl,List.getElem?_drop]
            congr 1;omega
           ·show fEnd ix ix.length L1.length E E' _=_
            unfold fEnd
            rw [if_pos (by omega)]
            congr 1;omega
         rw [hL2.1]
         obtain ⟨ab1,h5,h6⟩:=hLoook j Lo[j] (List.getElem?_eq_getElem hjl)
         rw [hab0] at h5;cases h5
         exact ⟨Lo[j],List.getElem?_eq_getElem hjl,h6,hL2.2⟩
        -- what may change behind the call could have changed for the callee
        have hmut:∀ b o,Mut c.M0 E2 L2 b o→Mut M0' E' Lout b o:=by
         rintro b o (hm|⟨i,ab,hi,he,hm⟩|⟨i,ab,hi,hm⟩)
         ·exact .inl ⟨hP0 b (hc.sub b o hm),.inl hm⟩
         rotate_left
         ·rcases look i ab hi with ⟨j,ab0,k1,k2,k3,k4⟩|⟨k1,k2,k3⟩
          ·exact .inr (.inr ⟨j,ab0,k1,by rw [← (renAB_alike k2).boxes];exact hm⟩)
          ·refine .inl ⟨⟨hs1.blt k2 hm,fun i2 ab2 hi2 hab2=>⟨fun hl2 he2=>hs1.bx.own i i2 ab ab2 b k2 hm hab2 hl2 he2,fun hb2 => ?_⟩⟩,.inr (.inr ⟨i,ab,k2,hm⟩)⟩
           exact k1 (by rw [hs1.bx.dj i i2 ab ab2 b k2 hab2 hm hb2];exact hi2)
         ·rcases look i ab hi with ⟨j,ab0,k1,k2,k3,k4⟩|⟨k1,k2,k3⟩
          ·exact .inr (.inl ⟨j,ab0,k1,by rw [← k3];exact he,((renAB_alike k2).mut o).1 hm⟩)
          ·rw [k3] at he
           have hl:=AB.mut_live hm
           refine .inl ⟨⟨hs1.lt k2 hl he,fun i2 ab2 hi2 hab2=>⟨fun hl2 he2 => ?_,fun hb2=>hs1.bx.own i2 i ab2 ab b hab2 hb2 k2 hl he⟩⟩,.inr (.inl ⟨i,ab,k2,he,hm⟩)⟩
           exact k1 (by rw [hs1.inj i i2 ab ab2 b k2 hab2 hl hl2 he he2];exact hi2)
        have hrd:∀ a u,(rcOf M0' E' Lout w').rd a u→(rcOf c.M0 E2 L2 w').rd a u:=rdle rfl (.refl _) fun a u h1 h2=>⟨h1,fun hm=>h2 (hmut _ _ hm)⟩
        have hleads2:Leads (rcOf M0' E' Lout w') (rcOf c.M0 E2 L2 w') (unN ix L1.length):=by
         refine ⟨hrd,?_,?_,?_,?_⟩
         rotate_right
         ·intro j i hji x v ⟨ab0,k1,k2⟩
          obtain ⟨ab,m1,m2,m3⟩:=back j i hji ab0 k1
          exact ⟨ab,m1,(renAB_alike m2).is k2⟩
         ·intro j i hji b ⟨ab0,k1,k2,k3⟩
          obtain ⟨ab,m1,m2,m3⟩:=back j i hji ab0 k1
          exact ⟨ab,m1,by rw [(renAB_alike m2).isCell];exact k2,by rw [m3];exact k3⟩
         ·intro j i hji v ⟨ab0,k1,k2⟩
          obtain ⟨ab,m1,m2,m3⟩:=back j i hji ab0 k1
          exact ⟨ab,m1,(renAB_alike m2).ar m3 k2⟩
         ·intro j i hji k o v ⟨ab0,k1,k2⟩
          obtain ⟨ab,m1,m2,m3⟩:=back j i hji ab0 k1
          exact ⟨ab,m1,(renAB_alike m2).ap m3 k2⟩
        -- a block that is none of the callee's has not turned
        have hother:∀ i ab b,i∉ix→L1[i]? = some ab→ab.live=true→E i=some b→w'.heap[b]? = w.heap[b]? := by
         intro i ab b hi hab hl he
         refine hsE.prot b ⟨hs1.lt hab hl he,fun i2 ab2 hi2 hab2=>⟨fun hl2 he2 => ?_,fun hb2=>hs1.bx.own i2 i ab2 ab b hab2 hb2 hab hl he⟩⟩
         exact hi (by rw [hs1.inj i i2 ab ab2 b hab hab2 hl hl2 he he2];exact hi2)
        have hotherB:∀ i ab b,i∉ix→L1[i]? = some ab→b∈ab.boxes→w'.heap[b]? = w.heap[b]? := by
         intro i ab b hi hab hb
         refine hsE.prot b ⟨hs1.blt hab hb,fun i2 ab2 hi2 hab2=>⟨fun hl2 he2=>hs1.bx.own i i2 ab ab2 b hab hb hab2 hl2 he2,fun hb2 => ?_⟩⟩
         exact hi (by rw [hs1.bx.dj i i2 ab ab2 b hab hab2 hb hb2];exact hi2)
        have hback1:∀ i,i∉ix→∀ ab,L1[i]? = some ab→L2[i]? = some ab∧E2 i=E i:=by
         intro i hi ab hab
         have hil:i<L1.length:=(List.getElem?_eq_some_iff.1 hab).1
         constructor
         ·rw [← hmerge,List.getElem?_append_left (by rw [hSl];exact hil),sets_other ix Lo L1 i hi];exact hab
         ·show fEnd ix ix.length L1.length E E' i=_
          unfold fEnd
          rw [if_neg (by omega),posN_none hi]
        have hun:∀ j i,ix[j]? = some i→unN ix L1.length j=some i:=by
         intro j i h;simp only [unN,h]
        -- what was true of the caller's own values is true still
        have hle:(rcOf c.M0 E L1 w).le (rcOf c.M0 E2 L2 w'):=by
         refine ⟨?_,?_,?_,?_,?_⟩
         rotate_right
         ·rintro i x v ⟨ab,k1,k2⟩
          by_cases hi:i∈ix
          ·obtain ⟨j,hj⟩:=List.mem_iff_getElem?.1 hi
           exact hleads2.is j i (hun j i hj) x v (hsE.old.is j x v (hleads.is i j (posN_some hnd hj) x v ⟨ab,k1,k2⟩))
          ·obtain ⟨m1,m2⟩:=hback1 i hi ab k1
           exact ⟨ab,m1,islRel_mono (fun b hb=>hotherB i ab b hi k1 hb) k2⟩
         ·intro a u h
          exact hrd a u (hsE.old.rd a u (hleads.rd a u h))
         ·rintro i b ⟨ab,k1,k2,k3⟩
          by_cases hi:i∈ix
          ·obtain ⟨j,hj⟩:=List.mem_iff_getElem?.1 hi
           exact hleads2.pt j i (hun j i hj) b (hsE.old.pt j b (hleads.pt i j (posN_some hnd hj) b ⟨ab,k1,k2,k3⟩))
          ·obtain ⟨m1,m2⟩:=hback1 i hi ab k1
           exact ⟨ab,m1,k2,by rw [m2];exact k3⟩
         ·rintro i v ⟨ab,k1,k2⟩
          by_cases hi:i∈ix
          ·obtain ⟨j,hj⟩:=List.mem_iff_getElem?.1 hi
           exact hleads2.ar j i (hun j i hj) v (hsE.old.ar j v (hleads.ar i j (posN_some hnd hj) v ⟨ab,k1,k2⟩))
          ·obtain ⟨m1,m2⟩:=hback1 i hi ab k1
           refine ⟨ab,m1,?_⟩
           cases ab with
           | cells cs=>simp only [arRel] at k2 ⊢;rw [m2];exact k2
           | map es=>exact k2.elim
           | pool b cs=>exact k2.elim
           | obj o=>exact k2.elim
           | obs o n cap=>simp only [arRel] at k2 ⊢;rw [m2];exact k2
           | isle lo n ok=>exact k2.elim
           | dead=>exact k2
           | row e n xs sh =>
             simp only [arRel,m2] at k2 ⊢
             cases hE:E i with
             | none=>rw [hE] at k2;exact k2
             | some b =>
               rw [hE] at k2
               obtain ⟨cap,cur,q1,q2,q3⟩:=k2
               exact ⟨cap,cur,q1,by rw [hother i _ b hi k1 rfl hE];exact q2,q3⟩
         ·rintro i k o v ⟨ab,k1,k2⟩
          by_cases hi:i∈ix
          ·obtain ⟨j,hj⟩:=List.mem_iff_getElem?.1 hi
           exact hleads2.ap j i (hun j i hj) k o v (hsE.old.ap j k o v (hleads.ap i j (posN_some hnd hj) k o v ⟨ab,k1,k2⟩))
          ·obtain ⟨m1,m2⟩:=hback1 i hi ab k1
           refine ⟨ab,m1,?_⟩
           cases ab with
           | cells cs=>exact k2.elim
           | map es=>exact k2.elim
           | pool b cs=>exact k2.elim
           | obj o=>exact k2.elim
           | obs o n cap=>exact k2.elim
           | isle lo n ok=>exact k2.elim
           | dead=>exact k2
           | row e n xs sh=>simp only [apRel,m2] at k2 ⊢;exact k2
        refine ⟨v,av',E2,L2,rfl,hK,?_,hle,renA_ok hleads2 av av' hav' v hvE⟩
        refine ⟨hsE.os.trans hs1.os,hsE.tape.trans hs1.tape,hsE.output.trans hs1.output,Nat.le_trans hs1.size hsE.size,?_,?_,?_,?_,hs1.old.trans hle,?_,hs1.lk.trans hsE.lk,fun s0 hs0 i e1 m1 ys sh1 b hi he => ?_⟩
        rotate_right
        ·rcases look i _ hi with ⟨j,ab0,k1,k2,k3,k4⟩|⟨k1,k2,k3⟩
         ·rw [k3] at he
          obtain ⟨sh2,rfl⟩:=renAB_row k2
          exact hsE.up s0 hs0 j _ _ _ _ b k1 he
         ·rw [k3] at he
          exact hs1.up s0 hs0 i _ _ _ _ b k2 he
        ·intro b hb
         rw [hsE.prot b (hP0 b hb)];exact hs1.prot b hb
        ·intro i ab hi
         rcases look i ab hi with ⟨j,ab0,k1,k2,k3,k4⟩|⟨k1,k2,k3⟩
         ·rw [k3];exact renAB_ok hleads2 k2 (hsE.blk j ab0 k1)
         ·rw [k3];exact BR.mono hle (hs1.blk i ab k2) (fun b he hl=>hother i ab b k1 k2 hl he) fun b hb=>hotherB i ab b k1 k2 hb
        ·intro i ab b hi hl he hp
         rcases look i ab hi with ⟨j,ab0,k1,k2,k3,k4⟩|⟨k1,k2,k3⟩
         ·rw [k3] at he
          exact hsE.low j ab0 b k1 (by rw [← (renAB_alike k2).live];exact hl) he (hP0 b hp)
         ·rw [k3] at he
          exact hs1.low i ab b k2 hl he hp
        ·intro i1 i2 ab1 ab2 b hi1 hi2 hl1 hl2 he1 he2
         rcases look i1 ab1 hi1 with ⟨j1,a1,k1,k2,k3,k4⟩|⟨k1,k2,k3⟩<;>rcases look i2 ab2 hi2 with ⟨j2,a2,m1,m2,m3,m4⟩|⟨m1,m2,m3⟩
         ·rw [k3] at he1;rw [m3] at he2
          have:=hsE.inj j1 j2 a1 a2 b k1 m1 (by rw [← (renAB_alike k2).live];exact hl1) (by rw [← (renAB_alike m2).live];exact hl2) he1 he2
          subst this
          rw [k4] at m4;cases m4;rfl
         ·rw [k3] at he1;rw [m3] at he2
          exfalso
          refine hsE.low j1 a1 b k1 (by rw [← (renAB_alike k2).live];exact hl1) he1 ⟨hs1.lt m2 hl2 he2,fun i3 ab3 hi3 hab3=>⟨fun hl3 he3 => ?_,fun hb3=>hs1.bx.own i3 i2 ab3 ab2 b hab3 hb3 m2 hl2 he2⟩⟩
          exact m1 (by rw [hs1.inj i2 i3 ab2 ab3 b m2 hab3 hl2 hl3 he2 he3];exact hi3)
         ·rw [k3] at he1;rw [m3] at he2
          exfalso
          refine hsE.low j2 a2 b m1 (by rw [← (renAB_alike m2).live];exact hl2) he2 ⟨hs1.lt k2 hl1 he1,fun i3 ab3 hi3 hab3=>⟨fun hl3 he3 => ?_,fun hb3=>hs1.bx.own i3 i1 ab3 ab1 b hab3 hb3 k2 hl1 he1⟩⟩
          exact k1 (by rw [hs1.inj i1 i3 ab1 ab3 b k2 hab3 hl1 hl3 he1 he3];exact hi3)
         ·rw [k3] at he1;rw [m3] at he2
          exact hs1.inj i1 i2 ab1 ab2 b k2 m2 hl1 hl2 he1 he2
        · -- owned blocks
          have hprB:∀ i ab b,i∉ix→L1[i]? = some ab→b∈ab.boxes→P0' b:=by
           intro i ab b hi hab hb
           refine ⟨hs1.blt hab hb,fun i2 ab2 hi2 hab2=>⟨fun hl2 he2=>hs1.bx.own i i2 ab ab2 b hab hb hab2 hl2 he2,fun hb2 => ?_⟩⟩
           exact hi (by rw [hs1.bx.dj i i2 ab ab2 b hab hab2 hb hb2];exact hi2)
          have hprL:∀ i ab b,i∉ix→L1[i]? = some ab→ab.live=true→E i=some b→P0' b:=by
           intro i ab b hi hab hl he
           refine ⟨hs1.lt hab hl he,fun i2 ab2 hi2 hab2=>⟨fun hl2 he2 => ?_,fun hb2=>hs1.bx.own i2 i ab2 ab b hab2 hb2 hab hl he⟩⟩
           exact hi (by rw [hs1.inj i i2 ab ab2 b hab hab2 hl hl2 he he2];exact hi2)
          refine ⟨?_,?_,?_,?_⟩
          ·intro i ab b hi hb hp
           rcases look i ab hi with ⟨j,ab0,k1,k2,k3,k4⟩|⟨k1,k2,k3⟩
           ·exact hsE.bx.low j ab0 b k1 (by rw [← (renAB_alike k2).boxes];exact hb) (hP0 b hp)
           ·exact hs1.bx.low i ab b k2 hb hp
          ·intro i1 i2 ab1 ab2 b hi1 hb hi2 hl2 he2
           rcases look i1 ab1 hi1 with ⟨j1,a1,k1,k2,k3,k4⟩|⟨k1,k2,k3⟩<;>rcases look i2 ab2 hi2 with ⟨j2,a2,m1,m2,m3,m4⟩|⟨m1,m2,m3⟩
           ·rw [m3] at he2
            exact hsE.bx.own j1 j2 a1 a2 b k1 (by rw [← (renAB_alike k2).boxes];exact hb) m1 (by rw [← (renAB_alike m2).live];exact hl2) he2
           ·rw [m3] at he2
            exact hsE.bx.low j1 a1 b k1 (by rw [← (renAB_alike k2).boxes];exact hb) (hprL i2 ab2 b m1 m2 hl2 he2)
           ·rw [m3] at he2
            exact hsE.low j2 a2 b m1 (by rw [← (renAB_alike m2).live];exact hl2) he2 (hprB i1 ab1 b k1 k2 hb)
           ·rw [m3] at he2
            exact hs1.bx.own i1 i2 ab1 ab2 b k2 hb m2 hl2 he2
          ·intro i ab hi
           rcases look i ab hi with ⟨j,ab0,k1,k2,k3,k4⟩|⟨k1,k2,k3⟩
           ·rw [(renAB_alike k2).boxes];exact hsE.bx.nd j ab0 k1
           ·exact hs1.bx.nd i ab k2
          ·intro i1 i2 ab1 ab2 b hi1 hi2 hb1 hb2
           rcases look i1 ab1 hi1 with ⟨j1,a1,k1,k2,k3,k4⟩|⟨k1,k2,k3⟩<;>rcases look i2 ab2 hi2 with ⟨j2,a2,m1,m2,m3,m4⟩|⟨m1,m2,m3⟩
           ·have:=hsE.bx.dj j1 j2 a1 a2 b k1 m1 (by rw [← (renAB_alike k2).boxes];exact hb1) (by rw [← (renAB_alike m2).boxes];exact hb2)
            subst this
            rw [k4] at m4;cases m4;rfl
           ·exact absurd (hprB i2 ab2 b m1 m2 hb2) (hsE.bx.low j1 a1 b k1 (by rw [← (renAB_alike k2).boxes];exact hb1))
           ·exact absurd (hprB i1 ab1 b k1 k2 hb1) (hsE.bx.low j2 a2 b m1 (by rw [← (renAB_alike m2).boxes];exact hb2))
           ·exact hs1.bx.dj i1 i2 ab1 ab2 b k2 m2 hb1 hb2
     ·exact hpost.elim
    ·exact hpost.elim
   ·exact h3.elim
theorem callK_ok {P:Program} {f:FuncId} {c:Ctx} (hc:c.wf) {E:Nat→Option Nat} {L:List AB} {w:World} (hs:SimH c E L w) {avs:List AV} {K:AV→List AB→Prop} (h:callK P f avs L K)
  {vs:Array Value} (hv:VRt (rcOf c.M0 E L w) avs vs.toList) :
  Calls P f vs w fun e w'=>∃ v av E' L',e = .returned v∧K av L'∧SimH c E' L' w'∧(rcOf c.M0 E L w).le (rcOf c.M0 E' L' w')∧VR (rcOf c.M0 E' L' w') av v:=by
 obtain ⟨avs1,L1,h1,hs1,hle1,hv1⟩:=argsK_ok hc hs h hv
 refine (callRawK_ok hc hs1 h1 hv1).mono ?_
 rintro e w' ⟨v,av,E',L',k1,k2,k3,k4,k5⟩
 exact ⟨v,av,E',L',k1,k2,k3,hle1.trans k4,k5⟩
end
end Go.Ab
namespace Go.Ab
noncomputable section
open Go.RowKit Go.MapKept
def mb:MV→List Nat
 | .box b _=>[b]
 | .v _=>[]
theorem boxesM_cons (p:KV×MV) (r:List (KV×MV)):boxesM (p :: r)=mb p.2++boxesM r:=by
 obtain ⟨k,m⟩:=p
 cases m<;>rfl
theorem boxesM_append:∀ (l r:List (KV×MV)),boxesM (l++r)=boxesM l++boxesM r
 | [],r=>by simp [boxesM]
 | p :: l,r=>by rw [List.cons_append,boxesM_cons,boxesM_cons,boxesM_append l r,List.append_assoc]
theorem VME_length {rd:Addr→Value→Prop} {w:World}:∀ {es:List (KV×MV)} {us:List MapEntry},VME rd w es us→us.length=es.length
 | [],us,hv=>by simp only [VME] at hv;subst hv;rfl
 | (k,m) :: r,us,hv=>by
   simp only [VME] at hv
   obtain ⟨u,us',rfl,h1,h2,h3⟩:=hv
   simp [VME_length (es:=r) h3]
theorem VME_set {rd:Addr→Value→Prop} {w:World} {k:KV} {m:MV} {u':MapEntry} (hk:VKV rd k u'.key) (hm:VMV rd w m u'.val):∀ {es:List (KV×MV)} {us:List MapEntry},VME rd w es us→∀ (j:Nat),VME rd w (es.set j (k,m)) (us.set j u')
 | [],us,hv,j=>by simp only [VME] at hv;subst hv;simp [VME]
 | (k0,m0) :: r,us,hv,j=>by
   simp only [VME] at hv
   obtain ⟨u,us',rfl,h1,h2,h3⟩:=hv
   cases j with
   | zero=>simp only [List.set_cons_zero,VME];exact ⟨_,_,rfl,hk,hm,h3⟩
   | succ j=>simp only [List.set_cons_succ,VME];exact ⟨_,_,rfl,h1,h2,VME_set hk hm (es:=r) h3 j⟩
theorem VME_erase {rd:Addr→Value→Prop} {w:World}:∀ {es:List (KV×MV)} {us:List MapEntry},VME rd w es us→∀ (j:Nat),VME rd w (es.eraseIdx j) (us.eraseIdx j)
 | [],us,hv,j=>by simp only [VME] at hv;subst hv;simp [VME]
 | (k0,m0) :: r,us,hv,j=>by
   simp only [VME] at hv
   obtain ⟨u,us',rfl,h1,h2,h3⟩:=hv
   cases j with
   | zero=>simpa using h3
   | succ j=>simp only [List.eraseIdx_cons_succ,VME];exact ⟨_,_,rfl,h1,h2,VME_erase (es:=r) h3 j⟩
theorem VME_push {rd:Addr→Value→Prop} {w:World} {k:KV} {m:MV} {u':MapEntry} (hk:VKV rd k u'.key) (hm:VMV rd w m u'.val):∀ {es:List (KV×MV)} {us:List MapEntry},VME rd w es us→VME rd w (es++[(k,m)]) (us++[u'])
 | [],us,hv=>by simp only [VME] at hv;subst hv;simp only [List.nil_append,VME];exact ⟨_,_,rfl,hk,hm,rfl⟩
 | (k0,m0) :: r,us,hv=>by
   simp only [VME] at hv
   obtain ⟨u,us',rfl,h1,h2,h3⟩:=hv
   simp only [List.cons_append,VME]
   exact ⟨_,_,rfl,h1,h2,VME_push hk hm (es:=r) h3⟩
theorem SimH.remap {c:Ctx} {E:Nat→Option Nat} {L L':List AB} {w:World} (h:SimH c E L w) {i:Nat} {es es':List (KV×MV)} {b:Nat} {ents ents':Array MapEntry} {clock clock':Nat}
  (hi:L[i]? = some (.map es)) (hE:E i=some b) (hh:w.heap[b]? = some (.map ents clock))
  (look:∀ (j:Nat) (ab:AB),L'[j]? = some ab→(j=i∧ab = .map es')∨(j≠i∧L[j]? = some ab)∨(j≠i∧(ab = .dead∨∃ b1 cs,ab = .pool b1 cs∧VBox (rcOf c.M0 E L w).rd w b1 cs)))
  (hi':L'[i]? = some (.map es')) (keep:∀ (j:Nat) (ab:AB),L[j]? = some ab→j≠i→(ab.live=true∨ab = .dead∨∃ lo n ok,ab = .isle lo n ok)→L'[j]? = some ab)
  (src:∀ (j:Nat) (ab:AB) (x:Nat),L'[j]? = some ab→x∈ab.boxes→∃ (j0:Nat) (ab0:AB),L[j0]? = some ab0∧x∈ab0.boxes)
  (nd:∀ (j:Nat) (ab:AB),L'[j]? = some ab→ab.boxes.Nodup) (dj:∀ (j k:Nat) (ab ab':AB) (x:Nat),L'[j]? = some ab→L'[k]? = some ab'→x∈ab.boxes→x∈ab'.boxes→j=k)
  (hv:VME (rcOf c.M0 E L w).rd w es' ents'.toList) (hborn:(ents'.toList.map (·.born)).Pairwise (· < ·)) (hclock:∀ x∈ents'.toList,x.born<clock') :
  SimH c E L' { w with heap:=w.heap.setIfInBounds b (.map ents' clock') }∧(rcOf c.M0 E L w).le (rcOf c.M0 E L' { w with heap:=w.heap.setIfInBounds b (.map ents' clock') }):=by
 have hset:=heap_set (o' := .map ents' clock') hh
 have hblk:∀ x,x≠b→(w.heap.setIfInBounds b (.map ents' clock'))[x]? = w.heap[x]? := fun x hx=>hset.2 x hx
 have hnb:∀ x (j0:Nat) (ab0:AB),L[j0]? = some ab0→x∈ab0.boxes→x≠b:=fun x j0 ab0 h0 hx he=>h.bx.own j0 i ab0 _ x h0 hx hi rfl (he▸hE)
 have hle:(rcOf c.M0 E L w).le (rcOf c.M0 E L' { w with heap:=w.heap.setIfInBounds b (.map ents' clock') }):=by
  refine ⟨?_,?_,?_,?_,?_⟩
  rotate_right
  ·rintro j x v ⟨abj,h1,h2⟩
   have hji:j≠i:=by
    rintro rfl
    rw [hi] at h1;cases h1
    exact h2.elim
   refine ⟨abj,keep j abj h1 hji (.inr (.inr (islRel_boxes h2))),islRel_mono (fun b1 hb1=>hblk b1 (hnb b1 j abj h1 hb1)) h2⟩
  ·refine rdle rfl (Likes.of_other hblk fun _ _ _ h=>by rw [hh] at h;cases h) ?_
   rintro a u h1 h2
   have hab:a.block≠b:=fun he=>h2 (.inr (.inl ⟨i,_,hi,by rw [hE,he],trivial⟩))
   refine ⟨by rw [World.cell?_of_block (w:=w) (hblk a.block hab)];exact h1,?_⟩
   rintro (hm'|⟨j,abj,hj,he,hmm⟩|⟨j,abj,hj,hmm⟩)
   ·exact h2 (.inl hm')
   ·rcases look j abj hj with ⟨rfl,rfl⟩|⟨_,hj'⟩|⟨_,rfl|⟨b1,cs,rfl,_⟩⟩
    ·exact h2 (.inr (.inl ⟨_,_,hi,he,trivial⟩))
    ·exact h2 (.inr (.inl ⟨_,_,hj',he,hmm⟩))
    ·exact hmm
    ·exact hmm
   ·obtain ⟨j0,ab0,k1,k2⟩:=src j abj _ hj hmm
    exact h2 (.inr (.inr ⟨j0,ab0,k1,k2⟩))
  ·rintro j x ⟨abj,h1,h2,h3⟩
   by_cases hji:j=i
   ·subst hji
    exact ⟨_,hi',rfl,h3⟩
   ·exact ⟨abj,keep j abj h1 hji (.inl (by cases abj<;>first|rfl|cases h2)),h2,h3⟩
  ·rintro j v ⟨abj,h1,h2⟩
   by_cases hji:j=i
   ·subst hji
    rw [hi] at h1;cases h1
    exact h2.elim
   ·cases abj with
    | cells cs=>exact ⟨_,keep j _ h1 hji (.inl rfl),h2⟩
    | map es=>exact h2.elim
    | pool b cs=>exact h2.elim
    | obj o=>exact h2.elim
    | obs o n cap=>exact ⟨_,keep j _ h1 hji (.inl rfl),h2⟩
    | isle lo n ok=>exact h2.elim
    | dead=>exact ⟨_,keep j _ h1 hji (.inr (.inl rfl)),h2⟩
    | row e n xs sh =>
      refine ⟨_,keep j _ h1 hji (.inl rfl),?_⟩
      simp only [arRel] at h2 ⊢
      cases hEj:E j with
      | none=>rw [hEj] at h2;exact h2
      | some x =>
        rw [hEj] at h2
        obtain ⟨cap,cur2,h3,h4,h5⟩:=h2
        exact ⟨cap,cur2,h3,(hblk x (fun he=>hji (h.inj j i _ _ b h1 hi rfl rfl (he▸hEj) hE))).trans h4,h5⟩
  ·rintro j x o v ⟨abj,h1,h2⟩
   by_cases hji:j=i
   ·subst hji
    rw [hi] at h1;cases h1
    exact h2.elim
   ·cases abj with
    | cells cs=>exact h2.elim
    | map es=>exact h2.elim
    | pool b cs=>exact h2.elim
    | obj o=>exact h2.elim
    | obs o n cap=>exact h2.elim
    | isle lo n ok=>exact h2.elim
    | dead=>exact ⟨_,keep j _ h1 hji (.inr (.inl rfl)),h2⟩
    | row e n xs sh=>exact ⟨_,keep j _ h1 hji (.inl rfl),h2⟩
 refine ⟨⟨h.os,h.tape,h.output,by simpa using h.size,?_,?_,?_,?_,h.old.trans hle,?_,h.lk.trans (Likes.of_other hblk fun _ _ _ h=>by rw [hh] at h;cases h),fun s0 hs0 j e1 m1 ys sh1 x hj he => ?_⟩,hle⟩
 rotate_right
 ·rcases look j _ hj with ⟨rfl,hx⟩|⟨hne,hj'⟩|⟨_,hx|⟨b1,cs,hx,hb1⟩⟩
  ·cases hx
  ·exact h.up s0 hs0 j _ _ _ _ x hj' he
  ·cases hx
  ·cases hx
 ·intro x hp
  exact (hblk x (fun he=>h.low i _ b hi rfl hE (he▸hp))).trans (h.prot x hp)
 ·intro j abj hj
  rcases look j abj hj with ⟨rfl,rfl⟩|⟨hne,hj'⟩|⟨_,rfl|⟨b1,cs,rfl,hb1⟩⟩
  ·exact ⟨b,ents',clock',hE,hset.1,VME.mono hle.rd (fun x hx=>by
    obtain ⟨j0,ab0,k1,k2⟩:=src j _ x hj hx
    exact hblk x (hnb x j0 ab0 k1 k2)) hv,hborn,hclock⟩
  ·exact BR.mono hle (h.blk j abj hj') (fun x he hl=>hblk x fun e=>hne (h.inj j i _ _ b hj' hi hl rfl (e▸he) hE)) fun x hx=>hblk x (hnb x j abj hj' hx)
  ·trivial
  ·obtain ⟨j0,ab0,k1,k2⟩:=src j _ b1 hj (by simp [AB.boxes])
   exact VBox.mono hle.rd (hblk b1 (hnb b1 j0 ab0 k1 k2)) hb1
 ·intro j abj x hj hl he
  rcases look j abj hj with ⟨rfl,rfl⟩|⟨hne,hj'⟩|⟨_,rfl|⟨b1,cs,rfl,hb1⟩⟩
  ·exact h.low _ _ x hi rfl he
  ·exact h.low j abj x hj' hl he
  ·cases hl
  ·cases hl
 ·intro j1 j2 ab1 ab2 x h1 h2 l1 l2 e1 e2
  have old:∀ (j:Nat) (ab:AB),L'[j]? = some ab→ab.live=true→∃ ab0,L[j]? = some ab0∧ab0.live=true:=by
   intro j ab hj hl
   rcases look j ab hj with ⟨rfl,rfl⟩|⟨hne,hj'⟩|⟨_,rfl|⟨b1,cs,rfl,hb1⟩⟩
   ·exact ⟨_,hi,rfl⟩
   ·exact ⟨_,hj',hl⟩
   ·cases hl
   ·cases hl
  obtain ⟨a1,k1,k2⟩:=old j1 ab1 h1 l1
  obtain ⟨a2,m1,m2⟩:=old j2 ab2 h2 l2
  exact h.inj j1 j2 a1 a2 x k1 m1 k2 m2 e1 e2
 ·refine ⟨?_,?_,nd,dj⟩
  ·intro j ab x hj hx
   obtain ⟨j0,ab0,k1,k2⟩:=src j ab x hj hx
   exact h.bx.low j0 ab0 x k1 k2
  ·intro j1 j2 ab1 ab2 x h1 hx h2 hl he
   obtain ⟨j0,ab0,k1,k2⟩:=src j1 ab1 x h1 hx
   rcases look j2 ab2 h2 with ⟨rfl,rfl⟩|⟨hne,hj'⟩|⟨_,rfl|⟨b1,cs,rfl,hb1⟩⟩
   ·exact h.bx.own j0 _ ab0 _ x k1 k2 hi rfl he
   ·exact h.bx.own j0 _ ab0 _ x k1 k2 hj' hl he
   ·cases hl
   ·cases hl
def keqM (a b:KV):Option Bool :=
 match a,b with
 | .one (.str s),.one (.str t)=>some (s == t)
 | .one (.int k n),.one (.int k' m)=>bif keq k k' then some (n == m) else none
 | .one (.bool p),.one (.bool q)=>some (p == q)
 | _,_=>none
def mfind (key:KV):List (KV×MV)→Nat→Option (Option (Nat×MV))
 | [],_=>some none
 | (k,m) :: r,j=>match keqM key k with
   | some true=>some (some (j,m))
   | some false=>mfind key r (j+1)
   | none=>none
def keyOf (x:AV):Option KV :=
 match x with
 | .d (.str s)=>some (.one (.str s))
 | .d (.int k n)=>some (.one (.int k n))
 | .d (.bool b)=>some (.one (.bool b))
 | _=>none
def kdOk (d:TypeDesc) (k:KV):Bool :=
 match d,k with
 | .string,.one (.str _)=>true
 | .int k,.one (.int k' _)=>keq k k'
 | .bool,.one (.bool _)=>true
 | _,_=>false
theorem keyOf_ok {x:AV} {k:KV} (h:keyOf x=some k) {R:RC} {v:Value} (hv:VR R x v):VKV R.rd k v:=by
 unfold keyOf at h
 split at h<;>first|(cases h;done)|skip
 all_goals
  cases h
  simp only [VR] at hv
  refine ⟨?_,hv⟩
  simp only [VD] at hv
  subst hv
  rfl
theorem keqM_now {d:TypeDesc} {k k':KV} {rd:Addr→Value→Prop} {v v':Value} (hd:kdOk d k=true) (hv:VKV rd k v) (hv':VKV rd k' v') {b:Bool} (h:keqM k k'=some b) :
  Instr.sameNow d v v'=some b∧(b=true→Instr.sameBits 10000 v' v=true):=by
 unfold keqM at h
 split at h
 ·rename_i s t
  simp only [VKV,VD] at hv hv'
  obtain ⟨_,rfl⟩:=hv
  obtain ⟨_,rfl⟩:=hv'
  cases h
  cases d<;>simp only [kdOk] at hd<;>first|(cases hd;done)|skip
  refine ⟨rfl,fun hb => ?_⟩
  have:s=t:=(bytes_beq s t).1 hb
  subst this
  simpa [Instr.sameBits] using (bytes_beq s s).2 rfl
 ·rename_i q n q' m
  simp only [VKV,VD] at hv hv'
  obtain ⟨_,rfl⟩:=hv
  obtain ⟨_,rfl⟩:=hv'
  cases hk:keq q q' with
  | false=>rw [hk] at h;cases h
  | true =>
    rw [hk] at h
    cases h
    have:=keq_eq hk
    subst this
    cases d<;>simp only [kdOk] at hd<;>first|(cases hd;done)|skip
    refine ⟨by simp [Instr.sameNow],fun hb => ?_⟩
    have:n=m:=by simpa using hb
    subst this
    simp [Instr.sameBits]
 ·rename_i p q
  simp only [VKV,VD] at hv hv'
  obtain ⟨_,rfl⟩:=hv
  obtain ⟨_,rfl⟩:=hv'
  cases h
  cases d<;>simp only [kdOk] at hd<;>first|(cases hd;done)|skip
  refine ⟨rfl,fun hb => ?_⟩
  have:p=q:=by simpa using hb
  subst this
  simp [Instr.sameBits]
 ·cases h
theorem mfind_now {d:TypeDesc} {key:KV} {rd:Addr→Value→Prop} {w:World} {v:Value} (hd:kdOk d key=true) (hv:VKV rd key v):∀ {es:List (KV×MV)} {us:List MapEntry} {j:Nat} {r:Option (Nat×MV)},VME rd w es us→mfind key es j=some r →
  (r=none→Instr.findNow d v us j=some none)∧(∀ i m,r=some (i,m)→∃ t u k',i=j+t∧us[t]? = some u∧es[t]? = some (k',m)∧Instr.findNow d v us j=some (some (i,u.val))∧Instr.sameBits 10000 u.key v=true∧VMV rd w m u.val)
 | [],us,j,r,hu,h=>by
   simp only [VME] at hu
   subst hu
   simp only [mfind,Option.some.injEq] at h
   subst h
   exact ⟨fun _=>rfl,by simp⟩
 | (k,m) :: rest,us,j,r,hu,h=>by
   simp only [VME] at hu
   obtain ⟨u,us',rfl,h1,h2,h3⟩:=hu
   simp only [mfind] at h
   cases hq:keqM key k with
   | none=>rw [hq] at h;cases h
   | some b =>
     obtain ⟨k1,k2⟩:=keqM_now hd hv h1 hq
     rw [hq] at h
     cases b with
     | true =>
       simp only [Option.some.injEq] at h
       subst h
       refine ⟨by simp,?_⟩
       rintro i m' he
       cases he
       exact ⟨0,u,k,rfl,by simp,by simp,by simp [Instr.findNow,k1],k2 rfl,h2⟩
     | false =>
       simp only at h
       obtain ⟨m1,m2⟩:=mfind_now hd hv (es:=rest) h3 h
       refine ⟨fun hr=>by simp [Instr.findNow,k1,m1 hr],?_⟩
       rintro i m' he
       obtain ⟨t,u',k',e1,e2,e3,e4,e5,e6⟩:=m2 i m' he
       exact ⟨t+1,u',k',by omega,by simpa using e2,by simpa using e3,by simp [Instr.findNow,k1,e4],e5,e6⟩
def mapDesc:TypeDesc→Option (Nat×Nat) | .map k e=>some (k,e)|_=>none
def makeMapK (L:List AB) (K:AV→List AB→Prop):Prop:=lpushK L (.map []) 0 fun i L'=>K (.map i) L'
theorem makeMapK_ok {P:Program} {c:Ctx} (hc:c.wf) {E:Nat→Option Nat} {L:List AB} {w:World} (hs:SimH c E L w) {K:AV→List AB→Prop} (h:makeMapK L K) (t:TypeId) :
  ∃ r w' E' av L',(Instr.makeMap t none).run P w = .ok r w'∧K av L'∧SimH c E' L' w'∧(rcOf c.M0 E L w).le (rcOf c.M0 E' L' w')∧VR (rcOf c.M0 E' L' w') av r:=by
 have h1:=lpushK_ok h
 rw [Nat.zero_add] at h1
 have k:=Keeps.alloc w (.map #[] 0)
 have hbx:∀ x∈(AB.map []).boxes,w.heap.size≤x:=by simp [AB.boxes,boxesM]
 have hb:∀ x,some w.heap.size=some x→w.heap.size≤x:=by intro x hx;cases hx;exact Nat.le_refl _
 have hle:=le_extend (c:=c) (E:=E) (L:=L) k (.map []) (some w.heap.size) hs.bl hb hbx
 have hs':=hs.extend hc k (.map []) (some w.heap.size) hb hbx (by simp [AB.boxes,boxesM]) (by simp [AB.boxes,boxesM]) ⟨w.heap.size,#[],0,rfl,heap_alloc_new w _,by simp [VME],by simp,by simp⟩
 refine ⟨.map (some w.heap.size),w.alloc (.map #[] 0),_,_,_,?_,h1,hs',hle,?_⟩
 ·simp only [Instr.makeMap,Sem.run_bind,Sem.run_pure,Result.andThen_ok]
  rfl
 ·simp only [VR]
  exact ⟨w.heap.size,⟨.map [],by simp,rfl,by simp [Eupd]⟩,rfl⟩
def lookRes (L:List AB) (i:Nat) (z:AV) (ok:Bool) (r:Option (Nat×MV)) (K:AV→List AB→Prop):Prop :=
 match r with
 | none=>match ok with
   | false=>K z L
   | true=>K (.tup [z,.d (.bool false)]) L
 | some (_,.v (.one x))=>match ok with
   | false=>K (.d x) L
   | true=>K (.tup [.d x,.d (.bool true)]) L
 | some (_,.v (.agg cs))=>match ok with
   | false=>K (.agg (cs.map AV.d)) L
   | true=>K (.tup [.agg (cs.map AV.d),.d (.bool true)]) L
 | some (_,.box b _)=>match ok with
   | false=>K (.mp i b 0) L
   | true=>K (.tup [.mp i b 0,.d (.bool true)]) L
def keyK (d:TypeDesc) (k:AV) (K:KV→Prop):Prop :=
 match keyOf k with
 | some kv=>bif kdOk d kv then K kv else False
 | none=>False
theorem keyK_ok {d:TypeDesc} {k:AV} {K:KV→Prop} (h:keyK d k K):∃ kv,keyOf k=some kv∧kdOk d kv=true∧K kv:=by
 unfold keyK at h
 split at h
 ·rename_i kv hk
  cases hd:kdOk d kv with
  | false=>rw [hd] at h;exact h.elim
  | true=>rw [hd] at h;exact ⟨kv,hk,hd,h⟩
 ·exact h.elim
def mapTK (tt:TypeId→Option TI) (t:TypeId) (K:TI→TI→TypeId→Prop):Prop :=
 ttK tt t fun i=>match mapDesc i.desc with
  | some (kt,et)=>ttK tt kt fun ki=>ttK tt et fun ei=>K ki ei et
  | none=>False
theorem mapTK_ok {P:Program} {tt:TypeId→Option TI} (ht:TTok P tt) {t:TypeId} {K:TI→TI→TypeId→Prop} (h:mapTK tt t K) :
  ∃ kt et ki ei,P.underlying t=some (.map kt et)∧tt kt=some ki∧P.underlying kt=some ki.desc∧tt et=some ei∧K ki ei et:=by
 obtain ⟨i,hi,h1⟩:=ttK_ok h
 split at h1
 ·rename_i kt et hd
  obtain ⟨ki,hki,h2⟩:=ttK_ok h1
  obtain ⟨ei,hei,h3⟩:=ttK_ok h2
  have hu:=(ht t i hi).1
  cases hq:i.desc<;>rw [hq] at hd<;>simp only [mapDesc] at hd<;>first|(cases hd;done)|skip
  cases hd
  rw [hq] at hu
  exact ⟨kt,et,ki,ei,hu,hki,(ht kt ki hki).1,hei,h3⟩
 ·exact h1.elim
def lookupK (tt:TypeId→Option TI) (t:TypeId) (ok:Bool) (L:List AB) (x k:AV) (K:AV→List AB→Prop):Prop :=
 mapTK tt t fun ki ei _=>keyK ki.desc k fun kv=>match x with
  | .map i=>lgetK L i fun ab=>match ab with
    | .map es=>∃ r,mfind kv es 0=some r∧lookRes L i (avOf ei.zero) ok r K
    | _=>False
  | _=>False
theorem isKey_of {d:TypeDesc} {kv:KV} {rd:Addr→Value→Prop} {v:Value} (hd:kdOk d kv=true) (hv:VKV rd kv v):IsKey d v:=by
 cases kv with
 | agg cs=>cases d<;>simp [kdOk] at hd
 | one x =>
   cases x<;>(try (cases d<;>simp [kdOk] at hd;done))
   case int k n =>
    simp only [VKV,VD] at hv
    obtain ⟨_,rfl⟩:=hv
    cases d<;>simp only [kdOk] at hd<;>first|(cases hd;done)|skip
    rw [keq_eq hd]
    simp [IsKey]
   case bool b =>
    simp only [VKV,VD] at hv
    obtain ⟨_,rfl⟩:=hv
    cases d<;>simp only [kdOk] at hd<;>first|(cases hd;done)|skip
    simp [IsKey]
   case str s =>
    simp only [VKV,VD] at hv
    obtain ⟨_,rfl⟩:=hv
    cases d<;>simp only [kdOk] at hd<;>first|(cases hd;done)|skip
    simp [IsKey]
end
end Go.Ab
namespace Go.Ab
noncomputable section
open Go.RowKit Go.MapKept
theorem map_at {c:Ctx} {E:Nat→Option Nat} {L:List AB} {w:World} (hs:SimH c E L w) {i:Nat} {es:List (KV×MV)} (hi:L[i]? = some (.map es)) {v:Value} (hv:VR (rcOf c.M0 E L w) (.map i) v) :
  ∃ b ents clock,E i=some b∧v = .map (some b)∧w.heap[b]? = some (.map ents clock)∧VME (rcOf c.M0 E L w).rd w es ents.toList∧(ents.toList.map (·.born)).Pairwise (· < ·)∧∀ x∈ents.toList,x.born<clock:=by
 simp only [VR] at hv
 obtain ⟨b,⟨ab,h1,_,h2⟩,rfl⟩:=hv
 rw [hi] at h1;cases h1
 obtain ⟨b',ents,clock,k1,k2,k3,k4,k5⟩:=hs.blk i _ hi
 rw [h2] at k1;cases k1
 exact ⟨b,ents,clock,h2,rfl,k2,k3,k4,k5⟩
theorem lookRes_ok {R:RC} {w:World} {L:List AB} {i:Nat} {z:AV} {zv:Value} (hz:VR R z zv) {ok:Bool} {r:Option (Nat×MV)} {K:AV→List AB→Prop} (h:lookRes L i z ok r K)
  {rv:Value×Bool} (hn:r=none→rv=(zv,false)) (hsome:∀ j m,r=some (j,m)→rv.2=true∧VMV R.rd w m rv.1) :
  ∃ av,K av L∧VR R av (if ok then .tuple #[rv.1,.bool rv.2] else rv.1):=by
 have tup:∀ {x:AV} {v:Value} {b:Bool},VR R x v→VR R (.tup [x,.d (.bool b)]) (.tuple #[v,.bool b]):=by
  intro x v b hx
  simp only [VR]
  exact ⟨_,rfl,by simp only [VRt];exact ⟨_,_,rfl,hx,_,_,rfl,by simp [VR,VD],rfl⟩⟩
 unfold lookRes at h
 split at h
 ·rw [hn rfl]
  split at h
  ·exact ⟨_,h,hz⟩
  ·exact ⟨_,h,tup hz⟩
 ·obtain ⟨h1,h2⟩:=hsome _ _ rfl
  have hx:=h2.2
  obtain ⟨v,b⟩:=rv
  simp only at h1 hx
  subst h1
  split at h
  ·exact ⟨_,h,by simp only [VR];exact hx⟩
  ·exact ⟨_,h,tup (by simp only [VR];exact hx)⟩
 ·obtain ⟨h1,us,h2,h3⟩:=hsome _ _ rfl
  obtain ⟨v,b⟩:=rv
  simp only at h1 h2
  subst h1 h2
  have hx:=(show VR R (.agg (List.map AV.d _)) (.agg us) by simp only [VR];exact ⟨us,rfl,VRs_d.2 h3⟩)
  split at h
  ·exact ⟨_,h,hx⟩
  ·exact ⟨_,h,tup hx⟩
 ·obtain ⟨h1,h2,_⟩:=hsome _ _ rfl
  obtain ⟨v,b⟩:=rv
  simp only at h1 h2
  subst h1 h2
  split at h
  ·exact ⟨_,h,by simp [VR]⟩
  ·exact ⟨_,h,tup (by simp [VR])⟩
theorem lookupK_ok {P:Program} {tt:TypeId→Option TI} (ht:TTok P tt) {c:Ctx} {E:Nat→Option Nat} {L:List AB} {w:World} (hs:SimH c E L w) {t:TypeId} {ok:Bool} {x k:AV} {K:AV→List AB→Prop} (h:lookupK tt t ok L x k K)
  {xv kv:Value} (hx:VR (rcOf c.M0 E L w) x xv) (hk:VR (rcOf c.M0 E L w) k kv):∃ r av,(Instr.lookup t xv kv ok).run P w = .ok r w∧K av L∧VR (rcOf c.M0 E L w) av r:=by
 obtain ⟨kt,et,ki,ei,hu,hki,hku,hei,h1⟩:=mapTK_ok ht h
 obtain ⟨key,hkey,hkd,h2⟩:=keyK_ok h1
 cases x<;>simp only at h2<;>first|exact h2.elim|skip
 case map i =>
  obtain ⟨ab,hab,h3⟩:=lgetK_ok h2
  cases ab<;>simp only at h3<;>first|exact h3.elim|skip
  rename_i es
  obtain ⟨r,hr,h4⟩:=h3
  obtain ⟨b,ents,clock,hE,rfl,hh,hv,_,_⟩:=map_at hs hab hx
  have hkv:=keyOf_ok hkey hk
  obtain ⟨f1,f2⟩:=mfind_now hkd hkv hv hr
  obtain ⟨hu',info,z1,z2,z3,z4⟩:=ht et ei hei
  have hzero:(zeroValue et).run P w = .ok ei.zero w:=by simp [zeroValue,typeInfo,z1,z2]
  have hcheck:=run_checkKey (w:=w) hku (isKey_of hkd hkv) ents.isEmpty 9999
  cases r with
  | none =>
    obtain ⟨av,k1,k2⟩:=lookRes_ok (VR_avOf (rcOf c.M0 E L w) ei.zero) h4 (w:=w) (rv:=(ei.zero,false)) (fun _=>rfl) (by simp)
    refine ⟨_,av,?_,k1,k2⟩
    have hf:=run_findKey (w:=w) hku (f1 rfl)
    simp only [Instr.lookup,Sem.run_bind,run_underlying hu,Result.andThen_ok,Go.MapKept.run_getObj_map hh,Sem.run_pure,hcheck,hf,hzero]
  | some jm =>
    obtain ⟨j,m⟩:=jm
    obtain ⟨t',u,k',_,e2,e3,e4,_,e6⟩:=f2 j m rfl
    obtain ⟨av,k1,k2⟩:=lookRes_ok (VR_avOf (rcOf c.M0 E L w) ei.zero) h4 (w:=w) (rv:=(u.val,true)) (by simp) (fun j' m' he=>by cases he;exact ⟨rfl,e6⟩)
    refine ⟨_,av,?_,k1,k2⟩
    have hf:=run_findKey (w:=w) hku e4
    simp only [Instr.lookup,Sem.run_bind,run_underlying hu,Result.andThen_ok,Go.MapKept.run_getObj_map hh,Sem.run_pure,hcheck,hf]
def kvK (v:AV) (L:List AB) (K:KV→List AB→Prop):Prop :=
 match v with
 | .agg cs=>toDsK cs L fun ds L'=>K (.agg ds) L'
 | v=>bif oneAV v then toDK v L fun d L'=>K (.one d) L' else False
theorem kvK_ok {c:Ctx} (hc:c.wf) {E:Nat→Option Nat} {L:List AB} {w:World} (hs:SimH c E L w) {v:AV} {K:KV→List AB→Prop} (h:kvK v L K) {u:Value} (hv:VR (rcOf c.M0 E L w) v u) :
  ∃ kv L',K kv L'∧SimH c E L' w∧(rcOf c.M0 E L w).le (rcOf c.M0 E L' w)∧VKV (rcOf c.M0 E L' w).rd kv u:=by
 unfold kvK at h
 split at h
 ·rename_i cs
  simp only [VR] at hv
  obtain ⟨us,rfl,h1⟩:=hv
  obtain ⟨ds,L',k1,_,k2,k3,k4⟩:=toDsK_ok hc hs h h1
  exact ⟨_,L',k1,k2,k3,us,rfl,k4⟩
 ·cases ho:oneAV v with
  | false=>rw [ho] at h;exact h.elim
  | true =>
    rw [ho] at h
    simp only [cond_true] at h
    obtain ⟨d,L',k1,_,k2,k3,k4⟩:=toDK_ok hc hs h hv
    exact ⟨_,L',k1,k2,k3,oneAV_ok ho hv,k4⟩
def mputAt (es:List (KV×MV)) (r:Option (Nat×MV)) (k:KV) (m:MV):List (KV×MV) :=
 match r with
 | none=>es++[(k,m)]
 | some (j,_)=>es.set j (k,m)
def mapUpdateK (tt:TypeId→Option TI) (t:TypeId) (L:List AB) (x k v:AV) (K:List AB→Prop):Prop :=
 mapTK tt t fun ki _ _=>keyK ki.desc k fun kv=>match x with
  | .map i=>match v with
    | .mp _ b o=>bif Nat.beq o 0 then lgetK L i fun ab=>match ab with
      | .map es=>∃ (r:Option (Nat×MV)) (j:Nat) (cs:List DV),mfind kv es 0=some r∧L[j]? = some (.pool b cs)∧(∀ L',L'=(L.set j .dead).set i (.map (mputAt es r kv (.box b cs)))→K L')
      | _=>False
      else False
    | v=>kvK v L fun dv L1=>lgetK L1 i fun ab=>match ab with
      | .map es=>∃ r,mfind kv es 0=some r∧lsetK L1 i (.map (mputAt es r kv (.v dv))) K
      | _=>False
  | _=>False
theorem boxesM_sub_set {es:List (KV×MV)} {j:Nat} {k:KV} {x:KV}:(boxesM (es.set j (k,.v x))).Sublist (boxesM es):=by
 induction es generalizing j with
 | nil=>simp
 | cons p r ih =>
   cases j with
   | zero=>rw [List.set_cons_zero,boxesM_cons,boxesM_cons];simp only [mb,List.nil_append];exact List.sublist_append_right _ _
   | succ j=>rw [List.set_cons_succ,boxesM_cons,boxesM_cons];exact List.Sublist.append (List.Sublist.refl _) ih
theorem boxesM_sub_erase {es:List (KV×MV)} {j:Nat}:(boxesM (es.eraseIdx j)).Sublist (boxesM es):=by
 induction es generalizing j with
 | nil=>simp
 | cons p r ih =>
   cases j with
   | zero=>rw [boxesM_cons];simp only [List.eraseIdx_cons_zero];exact List.sublist_append_right _ _
   | succ j=>rw [List.eraseIdx_cons_succ,boxesM_cons,boxesM_cons];exact List.Sublist.append (List.Sublist.refl _) ih
theorem boxesM_put_v {es:List (KV×MV)} {r:Option (Nat×MV)} {k:KV} {x:KV}:(boxesM (mputAt es r k (.v x))).Sublist (boxesM es):=by
 unfold mputAt
 split
 ·rw [boxesM_append];simp [boxesM]
 ·exact boxesM_sub_set
theorem boxesM_put_box {es:List (KV×MV)} {r:Option (Nat×MV)} {k:KV} {b:Nat} {cs:List DV} (hb:b∉boxesM es) (hn:(boxesM es).Nodup) :
  (∀ x∈boxesM (mputAt es r k (.box b cs)),x=b∨x∈boxesM es)∧(boxesM (mputAt es r k (.box b cs))).Nodup:=by
 unfold mputAt
 split
 ·rw [boxesM_append]
  simp only [boxesM]
  refine ⟨fun x hx => ?_,?_⟩
  ·simp at hx;exact hx.symm
  ·rw [List.nodup_append];refine ⟨hn,by simp,?_⟩
   intro x hx y hy;simp at hy;subst hy;exact fun e=>hb (e▸hx)
 ·rename_i j m
  induction es generalizing j with
  | nil=>simp [boxesM]
  | cons p l ih =>
    rw [boxesM_cons] at hb hn
    simp only [List.mem_append,not_or] at hb
    rw [List.nodup_append] at hn
    cases j with
    | zero =>
      rw [List.set_cons_zero,boxesM_cons,boxesM_cons]
      refine ⟨fun x hx => ?_,?_⟩
      ·simp [mb] at hx;rcases hx with h|h
       ·exact .inl h
       ·exact .inr (List.mem_append_right _ h)
      ·simp only [mb,List.singleton_append,List.nodup_cons];exact ⟨hb.2,hn.2.1⟩
    | succ j =>
      rw [List.set_cons_succ,boxesM_cons,boxesM_cons]
      obtain ⟨i1,i2⟩:=ih hb.2 hn.2.1 j
      refine ⟨fun x hx => ?_,?_⟩
      ·rcases List.mem_append.1 hx with h|h
       ·exact .inr (List.mem_append_left _ h)
       ·rcases i1 x h with h|h
        ·exact .inl h
        ·exact .inr (List.mem_append_right _ h)
      ·rw [List.nodup_append]
       refine ⟨hn.1,i2,?_⟩
       intro x hx y hy
       rcases i1 y hy with rfl|h
       ·exact fun e=>hb.1 (e▸hx)
       ·exact hn.2.2 x hx y h
theorem modify_toList (es:Array MapEntry) (i:Nat) (u:MapEntry) (f:MapEntry→MapEntry) (h:es.toList[i]? = some u):(es.modify i f).toList=es.toList.set i (f u):=by
 apply List.ext_getElem?
 intro j
 rw [List.getElem?_set]
 simp only [Array.getElem?_toList,Array.getElem?_modify] at h ⊢
 by_cases hj:i=j
 ·subst hj
  have hlt:i<es.size:=by
   have:=(Array.getElem?_eq_some_iff.1 h).1;exact this
  simp only [if_true,h,Option.map_some]
  rw [if_pos (by simpa using hlt)]
 ·rw [if_neg hj,if_neg hj]
theorem map_set_born {l:List MapEntry} {i:Nat} {u u':MapEntry} (h:l[i]? = some u) (hb:u'.born=u.born):(l.set i u').map (·.born)=l.map (·.born):=by
 apply List.ext_getElem?
 intro j
 simp only [List.getElem?_map,List.getElem?_set]
 by_cases hj:i=j
 ·subst hj
  have hlt:=(List.getElem?_eq_some_iff.1 h).1
  rw [if_pos rfl,if_pos hlt,h];simp [hb]
 ·rw [if_neg hj]
theorem run_mapUpdate {P:Program} {w:World} {t kt et:TypeId} {d:TypeDesc} (hu:P.underlying t=some (.map kt et)) (hku:P.underlying kt=some d) {key:KV} {m:MV} {rd:Addr→Value→Prop} {k v:Value} (hkd:kdOk d key=true) (hk:VKV rd key k)
  {es:List (KV×MV)} {b:Nat} {ents:Array MapEntry} {clock:Nat} (hh:w.heap[b]? = some (.map ents clock)) (hv:VME rd w es ents.toList) (hborn:(ents.toList.map (·.born)).Pairwise (· < ·)) (hclock:∀ x∈ents.toList,x.born<clock)
  {r:Option (Nat×MV)} (hr:mfind key es 0=some r) (hm:VMV rd w m v) :
  ∃ ents' clock',(Instr.mapUpdate t (.map (some b)) k v).run P w = .ok () { w with heap:=w.heap.setIfInBounds b (.map ents' clock') } ∧
    VME rd w (mputAt es r key m) ents'.toList∧(ents'.toList.map (·.born)).Pairwise (· < ·)∧∀ x∈ents'.toList,x.born<clock':=by
 obtain ⟨f1,f2⟩:=mfind_now hkd hk hv hr
 have hcheck:=run_checkKey (w:=w) hku (isKey_of hkd hk) false 9999
 cases r with
 | none =>
   have hf:=run_findKey (w:=w) hku (f1 rfl)
   refine ⟨ents.push { key:=k,val:=v,born:=clock },clock+1,?_,?_,?_,?_⟩
   ·simp only [Instr.mapUpdate,Sem.run_bind,run_underlying hu,Result.andThen_ok,Go.MapKept.run_getObj_map hh,hcheck,hf]
    exact Go.MapKept.run_setObj_map _ hh
   ·simp only [Array.toList_push]
    exact VME_push hk hm hv
   ·simp only [Array.toList_push,List.map_append,List.map_cons,List.map_nil]
    rw [List.pairwise_append]
    refine ⟨hborn,by simp,?_⟩
    intro x hx y hy
    simp at hy
    subst hy
    obtain ⟨u,hu',rfl⟩:=List.mem_map.1 hx
    exact hclock u hu'
   ·simp only [Array.toList_push,List.mem_append,List.mem_singleton]
    rintro x (hx|rfl)
    ·exact Nat.lt_succ_of_lt (hclock x hx)
    ·exact Nat.lt_succ_self _
 | some jm =>
   obtain ⟨j,m0⟩:=jm
   obtain ⟨t',u,k',e1,e2,e3,e4,e5,e6⟩:=f2 j m0 rfl
   rw [Nat.zero_add] at e1
   subst e1
   have hf:=run_findKey (w:=w) hku e4
   have e2':ents[j]? = some u:=by simpa using e2
   have hmod:=modify_toList ents j u (fun e=>{ e with key:=k,val:=v }) e2
   refine ⟨ents.modify j fun e=>{ e with key:=k,val:=v },clock,?_,?_,?_,?_⟩
   ·simp only [Instr.mapUpdate,Sem.run_bind,run_underlying hu,Result.andThen_ok,Go.MapKept.run_getObj_map hh,hcheck,hf,e2',Option.map_some,Option.getD_some,Instr.keyThatStays,e5,if_true,Sem.run_pure]
    exact Go.MapKept.run_setObj_map _ hh
   ·rw [hmod]
    exact VME_set hk hm hv j
   ·rw [hmod,map_set_born (u':={ u with key:=k,val:=v }) e2 rfl];exact hborn
   ·rw [hmod]
    intro x hx
    rcases List.mem_or_eq_of_mem_set hx with hx|rfl
    ·exact hclock x hx
    ·exact hclock u (List.mem_of_getElem? e2)
end
end Go.Ab
namespace Go.Ab
noncomputable section
open Go.RowKit Go.MapKept
theorem SimH.remap1 {c:Ctx} {E:Nat→Option Nat} {L:List AB} {w:World} (h:SimH c E L w) {i:Nat} {es es':List (KV×MV)} {b:Nat} {ents ents':Array MapEntry} {clock clock':Nat}
  (hi:L[i]? = some (.map es)) (hE:E i=some b) (hh:w.heap[b]? = some (.map ents clock)) (hsub:(boxesM es').Sublist (boxesM es))
  (hv:VME (rcOf c.M0 E L w).rd w es' ents'.toList) (hborn:(ents'.toList.map (·.born)).Pairwise (· < ·)) (hclock:∀ x∈ents'.toList,x.born<clock') :
  SimH c E (L.set i (.map es')) { w with heap:=w.heap.setIfInBounds b (.map ents' clock') }∧(rcOf c.M0 E L w).le (rcOf c.M0 E (L.set i (.map es')) { w with heap:=w.heap.setIfInBounds b (.map ents' clock') }):=by
 have look:∀ (j:Nat) (ab:AB),(L.set i (.map es'))[j]? = some ab→(j=i∧ab = .map es')∨(j≠i∧L[j]? = some ab):=by
  intro j ab hj
  by_cases hji:j=i
  ·subst hji;rw [getElem?_set_same hi] at hj;cases hj;exact .inl ⟨rfl,rfl⟩
  ·rw [getElem?_set_other hji] at hj;exact .inr ⟨hji,hj⟩
 have src:∀ (j:Nat) (ab:AB) (x:Nat),(L.set i (.map es'))[j]? = some ab→x∈ab.boxes→∃ (ab0:AB),L[j]? = some ab0∧x∈ab0.boxes:=by
  intro j ab x hj hx
  rcases look j ab hj with ⟨rfl,rfl⟩|⟨_,hj'⟩
  ·exact ⟨_,hi,hsub.subset hx⟩
  ·exact ⟨ab,hj',hx⟩
 refine h.remap hi hE hh (fun j ab hj=>(look j ab hj).imp id .inl) (getElem?_set_same hi) (fun j ab hj hji _=>by rw [getElem?_set_other hji];exact hj) (fun j ab x hj hx=>⟨j,src j ab x hj hx⟩) ?_ ?_ hv hborn hclock
 ·intro j ab hj
  rcases look j ab hj with ⟨rfl,rfl⟩|⟨_,hj'⟩
  ·exact (h.bx.nd j _ hi).sublist hsub
  ·exact h.bx.nd j ab hj'
 ·intro j k ab ab' x hj hk hx hx'
  obtain ⟨a0,k1,k2⟩:=src j ab x hj hx
  obtain ⟨a1,m1,m2⟩:=src k ab' x hk hx'
  exact h.bx.dj j k a0 a1 x k1 m1 k2 m2
theorem mapUpdateK_ok {P:Program} {tt:TypeId→Option TI} (ht:TTok P tt) {c:Ctx} (hc:c.wf) {E:Nat→Option Nat} {L:List AB} {w:World} (hs:SimH c E L w) {t:TypeId} {x k v:AV} {K:List AB→Prop} (h:mapUpdateK tt t L x k v K)
  {xv kv u:Value} (hx:VR (rcOf c.M0 E L w) x xv) (hk:VR (rcOf c.M0 E L w) k kv) (hu:VR (rcOf c.M0 E L w) v u) :
  ∃ w' L',(Instr.mapUpdate t xv kv u).run P w = .ok () w'∧K L'∧SimH c E L' w'∧(rcOf c.M0 E L w).le (rcOf c.M0 E L' w'):=by
 obtain ⟨kt,et,ki,ei,hut,hki,hku,hei,h1⟩:=mapTK_ok ht h
 obtain ⟨key,hkey,hkd,h2⟩:=keyK_ok h1
 clear h h1
 cases x<;>simp only at h2<;>first|exact h2.elim|skip
 case map i =>
  -- data
  have data:(kvK v L fun dv L1=>lgetK L1 i fun ab=>match ab with
    | .map es=>∃ r,mfind key es 0=some r∧lsetK L1 i (.map (mputAt es r key (.v dv))) K
    | _=>False)→∃ w' L',(Instr.mapUpdate t xv kv u).run P w = .ok () w'∧K L'∧SimH c E L' w'∧(rcOf c.M0 E L w).le (rcOf c.M0 E L' w'):=by
   intro h3
   obtain ⟨dv,L1,h4,hs1,hle1,hdv⟩:=kvK_ok hc hs h3 hu
   obtain ⟨ab,hab,h5⟩:=lgetK_ok h4
   cases ab<;>simp only at h5<;>first|exact h5.elim|skip
   rename_i es
   obtain ⟨r,hr,h6⟩:=h5
   obtain ⟨b,ents,clock,hE,rfl,hh,hv,hborn,hclock⟩:=map_at hs1 hab (VR.mono hle1 _ _ hx)
   obtain ⟨ents',clock',q1,q2,q3,q4⟩:=run_mapUpdate hut hku hkd (keyOf_ok hkey (VR.mono hle1 _ _ hk)) hh hv hborn hclock hr (m := .v dv) hdv
   obtain ⟨hs',hle⟩:=hs1.remap1 hab hE hh boxesM_put_v q2 q3 q4
   exact ⟨_,_,q1,lsetK_ok h6,hs',hle1.trans hle⟩
  cases v<;>simp only at h2<;>first|exact data h2|skip
  case mp i0 b0 o =>
   cases ho:Nat.beq o 0 with
   | false=>rw [ho] at h2;exact h2.elim
   | true =>
     rw [ho] at h2
     simp only [cond_true] at h2
     have:=Nat.eq_of_beq_eq_true ho
     subst this
     simp only [VR] at hu
     subst hu
     obtain ⟨ab,hab,h5⟩:=lgetK_ok h2
     cases ab<;>simp only at h5<;>first|exact h5.elim|skip
     rename_i es
     obtain ⟨r,j,cs,hr,hj,hK⟩:=h5
     obtain ⟨b,ents,clock,hE,rfl,hh,hv,hborn,hclock⟩:=map_at hs hab hx
     have hbox:VBox (rcOf c.M0 E L w).rd w b0 cs:=(hs.blk j _ hj).box (by simp [AB.boxcs])
     obtain ⟨ents',clock',q1,q2,q3,q4⟩:=run_mapUpdate hut hku hkd (keyOf_ok hkey hk) hh hv hborn hclock hr (m := .box b0 cs) ⟨rfl,hbox⟩
     have hij:j≠i:=by rintro rfl;rw [hab] at hj;cases hj
     have hb0:b0∉boxesM es:=fun hm=>hij (hs.bx.dj j i _ _ b0 hj hab (by simp [AB.boxes]) hm)
     obtain ⟨p1,p2⟩:=boxesM_put_box (r:=r) (k:=key) (cs:=cs) hb0 (hs.bx.nd i _ hab)
     have habd:(L.set j .dead)[i]? = some (.map es):=by rw [getElem?_set_other (Ne.symm hij)];exact hab
     have look:∀ (m:Nat) (ab:AB),((L.set j .dead).set i (.map (mputAt es r key (.box b0 cs))))[m]? = some ab→(m=i∧ab = .map (mputAt es r key (.box b0 cs)))∨(m≠i∧m≠j∧L[m]? = some ab)∨(m≠i∧m=j∧ab = .dead):=by
      intro m ab hm
      by_cases hmi:m=i
      ·subst hmi;rw [getElem?_set_same habd] at hm;cases hm;exact .inl ⟨rfl,rfl⟩
      ·rw [getElem?_set_other hmi] at hm
       by_cases hmj:m=j
       ·subst hmj;rw [getElem?_set_same hj] at hm;cases hm;exact .inr (.inr ⟨hmi,rfl,rfl⟩)
       ·rw [getElem?_set_other hmj] at hm;exact .inr (.inl ⟨hmi,hmj,hm⟩)
     -- where an owned block came from
     have src:∀ (m:Nat) (ab:AB) (x:Nat),((L.set j .dead).set i (.map (mputAt es r key (.box b0 cs))))[m]? = some ab→x∈ab.boxes →
       (m=i∧x=b0)∨∃ (ab0:AB),m≠j∧L[m]? = some ab0∧x∈ab0.boxes:=by
      intro m ab x hm hx
      rcases look m ab hm with ⟨rfl,rfl⟩|⟨n1,n2,hm'⟩|⟨_,_,rfl⟩
      ·rcases p1 x hx with rfl|hx
       ·exact .inl ⟨rfl,rfl⟩
       ·exact .inr ⟨_,Ne.symm hij,hab,hx⟩
      ·exact .inr ⟨ab,n2,hm',hx⟩
      ·simp [AB.boxes] at hx
     obtain ⟨hs',hle⟩:=hs.remap (L':=(L.set j .dead).set i (.map (mputAt es r key (.box b0 cs)))) hab hE hh (fun m ab hm=>by
       rcases look m ab hm with h|⟨n1,n2,h⟩|⟨n1,_,h⟩
       ·exact .inl h
       ·exact .inr (.inl ⟨n1,h⟩)
       ·exact .inr (.inr ⟨n1,.inl h⟩))
      (getElem?_set_same habd) (fun m ab hm hmi hl=>by
        have hmj:m≠j:=by
         rintro rfl
         rw [hj] at hm;cases hm
         rcases hl with hl|hl|⟨_,_,_,hl⟩<;>cases hl
        rw [getElem?_set_other hmi,getElem?_set_other hmj];exact hm)
      (fun m ab x hm hx=>by
        rcases src m ab x hm hx with ⟨_,rfl⟩|⟨ab0,_,h1,h2⟩
        ·exact ⟨j,_,hj,by simp [AB.boxes]⟩
        ·exact ⟨m,ab0,h1,h2⟩)
      (fun m ab hm=>by
        rcases look m ab hm with ⟨rfl,rfl⟩|⟨n1,n2,hm'⟩|⟨_,_,rfl⟩
        ·exact p2
        ·exact hs.bx.nd m ab hm'
        ·simp [AB.boxes])
      (fun m m' ab ab' x hm hm' hx hx'=>by
        have hjb:∀ (q:Nat) (ab0:AB),q≠j→L[q]? = some ab0→b0∉ab0.boxes:=fun q ab0 hq h0 hb=>hq (hs.bx.dj q j ab0 _ b0 h0 hj hb (by simp [AB.boxes]))
        rcases src m ab x hm hx with ⟨rfl,rfl⟩|⟨a0,n1,g1,g2⟩<;>rcases src m' ab' _ hm' hx' with ⟨rfl,e⟩|⟨a1,n2,h3,h4⟩
        ·rfl
        ·exact absurd h4 (hjb m' a1 n2 h3)
        ·subst e;exact absurd g2 (hjb m a0 n1 g1)
        ·exact hs.bx.dj m m' a0 a1 x g1 h3 g2 h4)
      q2 q3 q4
     exact ⟨_,_,q1,hK _ rfl,hs',hle⟩
def deleteK (tt:TypeId→Option TI) (t:TypeId) (L:List AB) (x k:AV) (K:List AB→Prop):Prop :=
 mapTK tt t fun ki _ _=>keyK ki.desc k fun kv=>match x with
  | .map i=>lgetK L i fun ab=>match ab with
    | .map es=>∃ r,mfind kv es 0=some r∧match r with
      | none=>K L
      | some (j,.v _)=>lsetK L i (.map (es.eraseIdx j)) K
      | some (j,.box b cs)=>lsetK L i (.map (es.eraseIdx j)) fun L'=>lpushK L' (.pool b cs) 0 fun _ L''=>K L''
    | _=>False
  | _=>False
theorem erase_toList (es:Array MapEntry) (i:Nat):(es.eraseIdxIfInBounds i).toList=es.toList.eraseIdx i:=by
 unfold Array.eraseIdxIfInBounds
 split
 ·simp
 ·rename_i h
  rw [List.eraseIdx_of_length_le (by simpa using h)]
theorem boxesM_erase_box {es:List (KV×MV)} {j:Nat} {k:KV} {b:Nat} {cs:List DV} (h:es[j]? = some (k,.box b cs)) (hn:(boxesM es).Nodup):b∈boxesM es∧b∉boxesM (es.eraseIdx j):=by
 induction es generalizing j with
 | nil=>simp at h
 | cons p r ih =>
   rw [boxesM_cons] at hn ⊢
   rw [List.nodup_append] at hn
   cases j with
   | zero =>
     simp at h
     subst h
     simp only [mb,List.eraseIdx_cons_zero]
     exact ⟨by simp,fun hm=>hn.2.2 b (by simp [mb]) b hm rfl⟩
   | succ j =>
     simp only [List.getElem?_cons_succ] at h
     obtain ⟨i1,i2⟩:=ih h hn.2.1
     rw [List.eraseIdx_cons_succ,boxesM_cons]
     refine ⟨List.mem_append_right _ i1,?_⟩
     intro hm
     rcases List.mem_append.1 hm with hm|hm
     ·exact hn.2.2 b hm b i1 rfl
     ·exact i2 hm
theorem deleteK_ok {P:Program} {tt:TypeId→Option TI} (ht:TTok P tt) {c:Ctx} (hc:c.wf) {E:Nat→Option Nat} {L:List AB} {w:World} (hs:SimH c E L w) {t:TypeId} {x k:AV} {K:List AB→Prop} (h:deleteK tt t L x k K)
  {xv kv:Value} (hx:VR (rcOf c.M0 E L w) x xv) (hk:VR (rcOf c.M0 E L w) k kv) (ts:Array TypeId) (hts:ts[0]? = some t) (rt:TypeId) :
  ∃ w' L',(Builtin.delete_ ts rt #[xv,kv]).run P w = .ok (.tuple #[]) w'∧K L'∧SimH c E L' w'∧(rcOf c.M0 E L w).le (rcOf c.M0 E L' w'):=by
 obtain ⟨kt,et,ki,ei,hut,hki,hku,hei,h1⟩:=mapTK_ok ht h
 obtain ⟨key,hkey,hkd,h2⟩:=keyK_ok h1
 clear h h1
 cases x<;>simp only at h2<;>first|exact h2.elim|skip
 case map i =>
  obtain ⟨ab,hab,h3⟩:=lgetK_ok h2
  cases ab<;>simp only at h3<;>first|exact h3.elim|skip
  rename_i es
  obtain ⟨r,hr,h4⟩:=h3
  obtain ⟨b,ents,clock,hE,rfl,hh,hv,hborn,hclock⟩:=map_at hs hab hx
  have hkv:=keyOf_ok hkey hk
  obtain ⟨f1,f2⟩:=mfind_now hkd hkv hv hr
  have hcheck:=run_checkKey (w:=w) hku (isKey_of hkd hkv) ents.isEmpty 9999
  cases r with
  | none =>
    have hf:=run_findKey (w:=w) hku (f1 rfl)
    simp only at h4
    obtain ⟨hs',hle⟩:=hs.remap1 hab hE hh (es':=es) (ents':=ents) (clock':=clock) (List.Sublist.refl _) hv hborn hclock
    have hL:L.set i (.map es)=L:=by
     apply List.ext_getElem?
     intro m
     by_cases hm:m=i
     ·subst hm;rw [getElem?_set_same hab,hab]
     ·rw [getElem?_set_other hm]
    rw [hL] at hs' hle
    refine ⟨_,_,?_,h4,hs',hle⟩
    simp only [Builtin.delete_,hts,Sem.run_bind,run_underlying hut,Result.andThen_ok,Go.MapKept.run_getObj_map hh,hcheck,hf]
    simp [Go.MapKept.run_setObj_map _ hh,run_underlying hut,Go.MapKept.run_getObj_map hh,hcheck,hf]
  | some jm =>
    obtain ⟨j,m⟩:=jm
    obtain ⟨t',u,k',e1,e2,e3,e4,e5,e6⟩:=f2 j m rfl
    rw [Nat.zero_add] at e1
    subst e1
    have hf:=run_findKey (w:=w) hku e4
    have hrun:(Builtin.delete_ ts rt #[.map (some b),kv]).run P w = .ok (.tuple #[]) { w with heap:=w.heap.setIfInBounds b (.map (ents.eraseIdxIfInBounds j) clock) }:=by
     simp [Builtin.delete_,hts,Go.MapKept.run_setObj_map _ hh,run_underlying hut,Go.MapKept.run_getObj_map hh,hcheck,hf]
    have hv':VME (rcOf c.M0 E L w).rd w (es.eraseIdx j) (ents.eraseIdxIfInBounds j).toList:=by rw [erase_toList];exact VME_erase hv j
    have hborn':((ents.eraseIdxIfInBounds j).toList.map (·.born)).Pairwise (· < ·):=by
     rw [erase_toList]
     exact hborn.sublist ((List.eraseIdx_sublist _ _).map _)
    have hclock':∀ x∈(ents.eraseIdxIfInBounds j).toList,x.born<clock:=by
     rw [erase_toList]
     exact fun x hx=>hclock x ((List.eraseIdx_sublist _ _).subset hx)
    cases m with
    | v y =>
      simp only at h4
      obtain ⟨hs',hle⟩:=hs.remap1 hab hE hh boxesM_sub_erase hv' hborn' hclock'
      exact ⟨_,_,hrun,lsetK_ok h4,hs',hle⟩
    | box b0 cs =>
      simp only at h4
      have h5:=lpushK_ok (lsetK_ok h4)
      obtain ⟨p1,p2⟩:=boxesM_erase_box e3 (hs.bx.nd i _ hab)
      have hbox:VBox (rcOf c.M0 E L w).rd w b0 cs:=e6.2
      have hil:i<L.length:=(List.getElem?_eq_some_iff.1 hab).1
      have look:∀ (m:Nat) (ab:AB),(L.set i (.map (es.eraseIdx j))++[.pool b0 cs])[m]? = some ab→(m=i∧ab = .map (es.eraseIdx j))∨(m≠i∧m≠L.length∧L[m]? = some ab)∨(m≠i∧m=L.length∧ab = .pool b0 cs):=by
       intro m ab hm
       by_cases hml:m=L.length
       ·subst hml
        rw [List.getElem?_append_right (by simp)] at hm
        simp at hm
        exact .inr (.inr ⟨by omega,rfl,hm.symm⟩)
       ·have hm':(L.set i (.map (es.eraseIdx j)))[m]? = some ab:=getElem?_push_lt hm (by simpa using hml)
        by_cases hmi:m=i
        ·subst hmi;rw [getElem?_set_same hab] at hm';cases hm';exact .inl ⟨rfl,rfl⟩
        ·rw [getElem?_set_other hmi] at hm';exact .inr (.inl ⟨hmi,hml,hm'⟩)
      have src:∀ (m:Nat) (ab:AB) (x:Nat),(L.set i (.map (es.eraseIdx j))++[.pool b0 cs])[m]? = some ab→x∈ab.boxes →
        (m=L.length∧x=b0)∨(∃ ab0,m≠L.length∧L[m]? = some ab0∧x∈ab0.boxes∧(m=i→x≠b0)):=by
       intro m ab x hm hx
       rcases look m ab hm with ⟨rfl,rfl⟩|⟨n1,n2,hm'⟩|⟨_,rfl,rfl⟩
       ·refine .inr ⟨_,by omega,hab,boxesM_sub_erase.subset hx,fun _ e=>p2 (e▸hx)⟩
       ·exact .inr ⟨ab,n2,hm',hx,fun e=>absurd e n1⟩
       ·simp [AB.boxes] at hx;exact .inl ⟨rfl,hx⟩
      obtain ⟨hs',hle⟩:=hs.remap (L':=L.set i (.map (es.eraseIdx j))++[.pool b0 cs]) hab hE hh (fun m ab hm=>by
        rcases look m ab hm with h|⟨n1,n2,h⟩|⟨n1,_,h⟩
        ·exact .inl h
        ·exact .inr (.inl ⟨n1,h⟩)
        ·exact .inr (.inr ⟨n1,.inr ⟨b0,cs,h,hbox⟩⟩))
       (by rw [List.getElem?_append_left (by simpa using hil)];exact getElem?_set_same hab) (fun m ab hm hmi hl=>by
         have:m<L.length:=(List.getElem?_eq_some_iff.1 hm).1
         rw [List.getElem?_append_left (by simpa using this),getElem?_set_other hmi];exact hm)
       (fun m ab x hm hx=>by
         rcases src m ab x hm hx with ⟨_,rfl⟩|⟨ab0,_,h1,h2,_⟩
         ·exact ⟨i,_,hab,p1⟩
         ·exact ⟨m,ab0,h1,h2⟩)
       (fun m ab hm=>by
         rcases look m ab hm with ⟨rfl,rfl⟩|⟨n1,n2,hm'⟩|⟨_,_,rfl⟩
         ·exact (hs.bx.nd m _ hab).sublist boxesM_sub_erase
         ·exact hs.bx.nd m ab hm'
         ·simp [AB.boxes])
       (fun m m' ab ab' x hm hm' hx hx'=>by
         rcases src m ab x hm hx with ⟨rfl,rfl⟩|⟨a0,n1,h1,h2,h2'⟩<;>rcases src m' ab' _ hm' hx' with ⟨rfl,e⟩|⟨a1,n2,h3,h4,h4'⟩
         ·rfl
         ·exfalso
          have:=hs.bx.dj i m' _ a1 _ hab h3 p1 h4
          exact h4' this.symm rfl
         ·exfalso
          subst e
          have:=hs.bx.dj i m _ a0 _ hab h1 p1 h2
          exact h2' this.symm rfl
         ·exact hs.bx.dj m m' a0 a1 x h1 h3 h2 h4)
       hv' hborn' hclock'
      exact ⟨_,_,hrun,h5,hs',hle⟩
def mapLenK (L:List AB) (d:TypeDesc) (x:AV) (K:AV→Prop):Prop :=
 match x with
 | .map i=>match mapDesc d with
   | some _=>lgetK L i fun ab=>match ab with
     | .map es=>K (.d (.int .i64 es.length))
     | _=>False
   | none=>False
 | _=>False
theorem mapLenK_ok {P:Program} {tt:TypeId→Option TI} (ht:TTok P tt) {c:Ctx} {E:Nat→Option Nat} {L:List AB} {w:World} (hs:SimH c E L w) {t:TypeId} {i:TI} (hi:tt t=some i) {x:AV} {K:AV→Prop} (h:mapLenK L i.desc x K) {v:Value} (hx:VR (rcOf c.M0 E L w) x v)
  (ts:Array TypeId) (rt:TypeId) (hts:ts[0]? = some t):∃ z:Int,(Builtin.len_ ts rt #[v]).run P w = .ok (.int .i64 z) w∧K (.d (.int .i64 z)):=by
 cases x<;>simp only [mapLenK] at h<;>first|exact h.elim|skip
 case map j =>
  split at h
  ·rename_i p hd
   obtain ⟨ab,hab,h3⟩:=lgetK_ok h
   cases ab<;>simp only at h3<;>first|exact h3.elim|skip
   rename_i es
   obtain ⟨b,ents,clock,hE,rfl,hh,hv,hborn,hclock⟩:=map_at hs hab hx
   have hu:=(ht t i hi).1
   cases hq:i.desc<;>rw [hq] at hd<;>simp only [mapDesc] at hd<;>first|(cases hd;done)|skip
   rw [hq] at hu
   have hl:ents.size=es.length:=by rw [← Array.length_toList];exact VME_length hv
   refine ⟨(es.length:Nat),?_,h3⟩
   simp [Builtin.len_,hts,run_underlying hu,Go.MapKept.run_getObj_map hh,goInt,hl]
  ·exact h.elim
end
end Go.Ab
namespace Go.Ab
noncomputable section
open Go.RowKit
def splitB (t:Bool) (A B:Prop):Prop :=
 match t with
 | true=>A
 | false=>B
def rangeSK (tt:TypeId→Option TI) (t:TypeId) (L:List AB) (x:AV) (K:AV→List AB→Prop):Prop :=
 ttK tt t fun i=>match i.desc,x with
  | .string,.d (.str s)=>lpushK L (.obj (.stringIter s 0)) 0 fun i L'=>K (.ptr i 0) L'
  | _,_=>False
theorem rangeSK_ok {P:Program} {tt:TypeId→Option TI} (ht:TTok P tt) {c:Ctx} (hc:c.wf) {E:Nat→Option Nat} {L:List AB} {w:World} (hs:SimH c E L w) {t:TypeId} {x:AV} {K:AV→List AB→Prop} (h:rangeSK tt t L x K) {v:Value} (hv:VR (rcOf c.M0 E L w) x v) :
  ∃ r w' E' av L',(Instr.range t v).run P w = .ok r w'∧K av L'∧SimH c E' L' w'∧(rcOf c.M0 E L w).le (rcOf c.M0 E' L' w')∧VR (rcOf c.M0 E' L' w') av r:=by
 obtain ⟨i,hi,h1⟩:=ttK_ok h
 obtain ⟨hu,_⟩:=ht t i hi
 split at h1
 ·rename_i s hd
  simp only [VR,VD] at hv
  subst hv
  have h2:=lpushK_ok h1
  rw [Nat.zero_add] at h2
  have k:=Keeps.alloc w (.stringIter s 0)
  have hbx:∀ x∈(AB.obj (.stringIter s 0)).boxes,w.heap.size≤x:=by simp [AB.boxes]
  have hb:∀ x,some w.heap.size=some x→w.heap.size≤x:=by intro x hx;cases hx;exact Nat.le_refl _
  have hle:=le_extend (c:=c) (E:=E) (L:=L) k (.obj (.stringIter s 0)) (some w.heap.size) hs.bl hb hbx
  have hs':=hs.extend hc k (.obj (.stringIter s 0)) (some w.heap.size) hb hbx (by simp [AB.boxes]) (by simp [AB.boxes]) ⟨w.heap.size,rfl,heap_alloc_new w _⟩
  refine ⟨.pointer (some ⟨w.heap.size,0,none⟩),w.alloc (.stringIter s 0),_,_,_,?_,h2,hs',hle,?_⟩
  ·simp [Instr.range,run_underlying hu,hd]
  ·simp only [VR]
   exact ⟨w.heap.size,⟨.obj (.stringIter s 0),by simp,rfl,by simp [Eupd]⟩,rfl⟩
 ·exact h1.elim
def nextSK (str:Bool) (L:List AB) (x:AV) (K:AV→List AB→Prop):Prop :=
 match str,x with
 | true,.ptr i 0=>lgetK L i fun ab=>match ab with
   | .obj (.stringIter s p)=>splitB (decide (p<s.size)) (lsetK L i (.obj (.stringIter s (p+(Utf8.decode s p).2))) fun L'=>K (.tup [.d (.bool true),.d (.int .i64 p),.d (.int .i32 (Utf8.decode s p).1)]) L') (K (.tup [.d (.bool false)]) L)
   | _=>False
 | _,_=>False
theorem nextSK_ok {P:Program} {c:Ctx} {E:Nat→Option Nat} {L:List AB} {w:World} (hs:SimH c E L w) {str:Bool} {x:AV} {K:AV→List AB→Prop} (h:nextSK str L x K) (t:TypeId) {v:Value} (hv:VR (rcOf c.M0 E L w) x v) :
  ∃ r w' av L',(Instr.next v str t).run P w = .ok r w'∧K av L'∧SimH c E L' w'∧(rcOf c.M0 E L w).le (rcOf c.M0 E L' w')∧VR (rcOf c.M0 E L' w') av r:=by
 unfold nextSK at h
 split at h
 ·rename_i i
  simp only [VR] at hv
  obtain ⟨b,⟨ab,hi,_,hE⟩,rfl⟩:=hv
  obtain ⟨ab',hi',h1⟩:=lgetK_ok h
  rw [hi] at hi';cases hi'
  split at h1
  ·rename_i s p _
   obtain ⟨b',hb',hh⟩:=hs.blk i _ hi
   rw [hE] at hb';cases hb'
   by_cases hp':p<s.size
   rotate_left
   ·rw [decide_eq_false hp'] at h1
    exact ⟨.tuple #[.bool false],w,_,L,by simp [Instr.next,getObj,Sem.run,hh,hp'],h1,hs,RC.le.refl _,by simp [VR,VRt,VD]⟩
   ·rw [decide_eq_true hp'] at h1
    have h2:=lsetK_ok h1
    have hlt:b<w.heap.size:=(Array.getElem?_eq_some_iff.1 hh).1
    have k:TurnsE (E i) w { w with heap:=w.heap.setIfInBounds b (.stringIter s (p+(Utf8.decode s p).2)) }:=by
     rw [hE]
     exact ⟨rfl,rfl,rfl,by simp,fun k hk=>Array.getElem?_setIfInBounds_ne fun e=>hk (by rw [e]),Likes.of_other (b:=b) (fun x hx=>Array.getElem?_setIfInBounds_ne (Ne.symm hx)) fun _ _ _ h=>by rw [hh] at h;cases h⟩
    have hle:(rcOf c.M0 E L w).le (rcOf c.M0 E (L.set i (.obj (.stringIter s (p+(Utf8.decode s p).2)))) { w with heap:=w.heap.setIfInBounds b (.stringIter s (p+(Utf8.decode s p).2)) }) :=
     le_set hs hi rfl k (fun _ _=>trivial) (fun b' o u _ hm _=>absurd trivial hm) rfl (fun v hv=>hv.elim) (fun j o v hv=>hv.elim) (fun x hx=>by simp [AB.boxes] at hx)
    refine ⟨.tuple #[.bool true,.int .i64 p,.int .i32 (Utf8.decode s p).1],_,_,_,?_,h2,hs.setE hi rfl k hle rfl ⟨b,hE,?_⟩ rfl,hle,?_⟩
    ·simp [Instr.next,getObj,setObj,Sem.run,hh,hp',Result.andThen,goInt]
    ·show (w.heap.setIfInBounds b _)[b]? = _
     simp [hlt]
    ·simp [VR,VRt,VD]
  ·exact h1.elim
 ·exact h.elim
end
end Go.Ab
namespace Go.Ab
noncomputable section
open Go.RowKit
def intKindZ:TypeDesc→Option IntKind | .int k=>some k|_=>none
def zeroDK (v:Value) (K:DV→Prop):Prop :=
 match v with
 | .int k z=>K (.int k z)
 | .string s=>K (.str s)
 | .bool b=>K (.bool b)
 | _=>False
theorem zeroDK_ok {v:Value} {K:DV→Prop} (h:zeroDK v K):∃ d,K d∧v.cells = #[v]∧v.oneCell'=true∧∀ rd,VD rd d v:=by
 unfold zeroDK at h
 split at h
 ·exact ⟨_,h,rfl,rfl,fun rd=>by simp [VD]⟩
 ·exact ⟨_,h,rfl,rfl,fun rd=>by simp [VD]⟩
 ·exact ⟨_,h,rfl,rfl,fun rd=>by simp [VD]⟩
 ·exact h.elim
def appendZK (tt:TypeId→Option TI) (t t':TypeId) (L:List AB) (s x:AV) (K:AV→List AB→Prop):Prop :=
 ttK tt t fun i=>match sliceElem i.desc with
  | some e=>ttK tt e fun ei=>ttK tt t' fun ni=>match intKindZ ni.desc with
    | some _=>bif Nat.beq ei.size 1&&Nat.ble 1 ei.bytes then zeroDK ei.zero fun d=>match x with
      | .d (.int _ n)=>match s with
        | .arr j=>lgetK L j fun ab=>match ab with
          | .row e' m xs sh=>bif Nat.beq m 1&&Nat.beq e' e then 0≤n∧(xs.length+n.toNat) * ei.bytes≤140737488355328 ∧
             lsetK L j .dead fun L1=>lpushK L1 (.row e 1 (xs++List.replicate n.toNat [d]) sh) 0 fun j' L'=>K (.arr j') L' else False
          | _=>False
        | _=>False
      | _=>False
      else False
    | none=>False
  | none=>False
theorem zeroCells_one (v:Value) (n:Nat):(Builtin.zeroCells #[v] n).toList=List.replicate n v:=by
 unfold Builtin.zeroCells
 apply List.ext_getElem
 ·simp
 ·intro k h1 h2
  simp [Nat.mod_one]
theorem run_append_zero_none {P:Program} (w:World) (t tn ty e:TypeId) (i:TypeInfo) (kq kn:IntKind) (ht:P.underlying t=some (.slice e)) (htn:P.underlying tn=some (.int kn)) (hi:P.info? e=some i)
  (base:Option Addr) (sLen sCap:Nat) (h:sLen≤sCap) :
  (Builtin.append_ #[t,tn] ty #[.slice base sLen sCap,.int kq 0]).run P w = .ok (.slice base sLen sCap) w:=by
 have hw:IntKind.i64.wrap 0=0:=by decide
 cases base<;>simp [Builtin.append_,run_underlying ht,run_underlying htn,sizeOf,typeInfo,hi,asInt,asIntOf,hw,h,storeCells]
theorem run_append_zero_room {P:Program} (w:World) (t tn ty e:TypeId) (i:TypeInfo) (z:Value) (kq kn:IntKind) (ht:P.underlying t=some (.slice e)) (htn:P.underlying tn=some (.int kn)) (hi:P.info? e=some i) (hz:i.zero=some z)
  (h1:i.size=1) (hzc:z.cells = #[z]) (hz1:z.oneCell'=true) (b sLen sCap:Nat) (cur:Array Value) (hh:w.heap[b]? = some (.cells cur e (0,0))) (n:Nat) (h0:0<n) (hn:n≤140737488355328) (hby:n * i.bytes≤281474976710656)
  (hroom:sLen+n≤sCap) (hfit:sLen+n≤cur.size) :
  (Builtin.append_ #[t,tn] ty #[.slice (some ⟨b,0,none⟩) sLen sCap,.int kq n]).run P w = .ok (.slice (some ⟨b,0,none⟩) (sLen+n) sCap) (w.setRow b (cur.toList.take sLen++List.replicate n z++cur.toList.drop (sLen+n)).toArray):=by
 have hw:IntKind.i64.wrap (n:Int)=n:=by rw [IntKind.wrap_i64];omega
 have hneg:¬((n:Int)<0):=by omega
 have h48i:¬(281474976710656<(n:Int) * (i.bytes:Int)):=by rw [← Int.natCast_mul];omega
 have hn0:n≠0:=by omega
 have hst:=run_storeCells_at P b sLen e (List.replicate n z) 0 cur w hh (by simpa using hfit) (by intro v hv;rw [(List.mem_replicate.1 hv).2];exact hz1)
 simp only [Nat.add_zero,List.length_replicate] at hst
 simp [Builtin.append_,run_underlying ht,run_underlying htn,sizeOf,typeInfo,zeroValue,hi,hz,h1,asInt,asIntOf,hw,hneg,h48i,hn0,hroom,zeroCells_one,hzc,Addr.add_lit,hst]
theorem VDs_replicate {rd:Addr→Value→Prop} {d:DV} {z:Value} (h1:z.oneCell'=true) (h:VD rd d z):∀ n:Nat,VDs rd (List.replicate n [d]).flatten (List.replicate n z)
 | 0=>by simp [VDs,Cs]
 | n+1=>by
   simp only [List.replicate_succ,List.flatten_cons,List.singleton_append,VDs,Cs]
   exact ⟨_,_,rfl,h1,h,by simpa [VDs] using VDs_replicate h1 h n⟩
theorem appendZK_ok {P:Program} {tt:TypeId→Option TI} (ht:TTok P tt) {t t':TypeId} {c:Ctx} (hc:c.wf) {E:Nat→Option Nat} {L:List AB} {w:World} (hs:SimH c E L w) {s x:AV} {K:AV→List AB→Prop} (h:appendZK tt t t' L s x K) (ty:TypeId)
  {v u:Value} (hv:VR (rcOf c.M0 E L w) s v) (hu':VR (rcOf c.M0 E L w) x u) :
  ∃ r w' E' av L',(Builtin.append_ #[t,t'] ty #[v,u]).run P w = .ok r w'∧K av L'∧SimH c E' L' w'∧(rcOf c.M0 E L w).le (rcOf c.M0 E' L' w')∧VR (rcOf c.M0 E' L' w') av r:=by
 unfold appendZK at h
 replace h:=ttK_ok h
 obtain ⟨i,hi,h⟩:=h
 split at h
 rotate_left
 ·exact h.elim
 rename_i e he
 replace h:=ttK_ok h
 obtain ⟨ei,hei,h⟩:=h
 replace h:=ttK_ok h
 obtain ⟨ni,hni,h⟩:=h
 split at h
 rotate_left
 ·exact h.elim
 rename_i kn hkn
 have hd:i.desc = .slice e:=by
  revert he
  cases i.desc<;>simp [sliceElem]
 have hdn:ni.desc = .int kn:=by
  revert hkn
  cases ni.desc<;>simp [intKindZ]
 obtain ⟨hu,_⟩:=ht t i hi
 rw [hd] at hu
 obtain ⟨htn,_⟩:=ht t' ni hni
 rw [hdn] at htn
 obtain ⟨_,info,k1,k2,k3,k4⟩:=ht e ei hei
 cases hb0:(Nat.beq ei.size 1&&Nat.ble 1 ei.bytes) with
 | false=>rw [hb0] at h;exact h.elim
 | true =>
 rw [hb0] at h
 simp only [cond_true] at h
 simp only [Bool.and_eq_true] at hb0
 have hsz1:=Nat.eq_of_beq_eq_true hb0.1
 have hRN:RN e 1:=⟨by omega,by rw [ht.sz e ei hei];exact hsz1⟩
 have hby:0<ei.bytes:=Nat.le_of_ble_eq_true hb0.2
 replace h:=zeroDK_ok h
 obtain ⟨d,h,hzc,hz1,hzd⟩:=h
 have hinfo1:info.size=1:=by rw [k3,hsz1]
 split at h
 rotate_left
 ·exact h.elim
 rename_i kq n
 simp only [VR,VD] at hu'
 subst hu'
 split at h
 rotate_left
 ·exact h.elim
 rename_i j
 obtain ⟨ab,hab,h1⟩:=lgetK_ok h
 cases ab<;>simp only at h1<;>first|exact h1.elim|skip
 rename_i e' m xs sh
 cases hb:(Nat.beq m 1&&Nat.beq e' e) with
 | false=>rw [hb] at h1;exact h1.elim
 | true =>
 rw [hb] at h1
 simp only [Bool.and_eq_true] at hb
 have em:=Nat.eq_of_beq_eq_true hb.1
 have ee:=Nat.eq_of_beq_eq_true hb.2
 subst em;subst ee
 obtain ⟨hn0,hbound,h2⟩:=h1
 obtain ⟨n,rfl⟩:=Int.eq_ofNat_of_zero_le hn0
 simp only [Int.toNat_natCast] at hbound h2
 have h3:=lpushK_ok (lsetK_ok h2)
 rw [Nat.zero_add] at h3
 simp only [List.length_set] at h3
 have hbr:=hs.blk j _ hab
 obtain ⟨_,hxlen,hbr2⟩:=hbr
 have hlt:j<L.length:=(List.getElem?_eq_some_iff.1 hab).1
 simp only [VR] at hv
 obtain ⟨ab',hab',hrel⟩:=hv
 rw [hab] at hab';cases hab'
 simp only [arRel] at hrel
 obtain ⟨hk,hkle⟩:=hs.kill hab
 have hklen:(L.set j AB.dead).length=L.length:=by simp
 have l1:VDs (rcOf c.M0 E L w).rd (List.replicate n [d]).flatten (List.replicate n ei.zero):=VDs_replicate hz1 (hzd _) n
 have l4:∀ cs∈List.replicate n [d],cs.length=1:=by intro cs hcs;rw [(List.mem_replicate.1 hcs).2];rfl
 have hbn:(xs.length+n)≤140737488355328:=Nat.le_trans (Nat.le_mul_of_pos_right _ hby) hbound
 have hby2:n * info.bytes≤281474976710656:=by
  rw [k4]
  have:n * ei.bytes≤(xs.length+n) * ei.bytes:=Nat.mul_le_mul_right _ (by omega)
  omega
 have tr:∀ {E2:Nat→Option Nat} {L2:List AB} {w2:World},(rcOf c.M0 E (L.set j AB.dead) w).le (rcOf c.M0 E2 L2 w2)→(rcOf c.M0 E L w).le (rcOf c.M0 E2 L2 w2) :=
  fun hle=>(hkle.trans hle)
 cases hE:E j with
 | none =>
   rw [hE] at hbr2 hrel
   simp only at hbr2 hrel
   subst hbr2;subst hrel
   simp only [List.nil_append,List.length_nil,Nat.zero_add] at h3 hbn
   rcases Nat.eq_zero_or_pos n with rfl|hnp
   ·obtain ⟨hs',hle⟩:=hk.nilRow hc e' 1 sh hRN
    rw [hklen] at hs' hle
    exact ⟨_,_,_,_,_,run_append_zero_none w t t' ty e' info kq kn hu htn k1 none 0 0 (Nat.le_refl _),h3,hs',tr hle,by rw [← hklen];exact rc_arr_nil⟩
   ·have hr:=Lib.run_append_nil_zeros (P:=P) w t t' ty e' info ei.zero kq kn hu htn k1 k2 n hnp (by omega) (by omega) hby2
    have hge:=grownCap_ge w n 0 e'
    have hcm:=grownCap_le_maxLen w n 0 e' (by unfold maxLen;omega)
    have f1:(Builtin.zeroCells ei.zero.cells n++Builtin.zeroCells ei.zero.cells (grownCap w n 0 e' - n)).size=grownCap w n 0 e' * 1:=by
     simp only [Array.size_append,size_zeroCells,hzc,List.size_toArray,List.length_cons,List.length_nil];omega
    have f2:VDs (rcOf c.M0 E L w).rd (List.replicate n [d]).flatten ((Builtin.zeroCells ei.zero.cells n++Builtin.zeroCells ei.zero.cells (grownCap w n 0 e' - n)).toList.take ((List.replicate n [d]).length * 1)):=by
     rw [Array.toList_append,hzc,zeroCells_one,List.length_replicate,Nat.mul_one]
     rw [List.take_append_of_le_length (by simp),List.take_of_length_le (by simp)]
     exact l1
    have kk:Keeps w (w.drew.alloc (.cells (Builtin.zeroCells ei.zero.cells n++Builtin.zeroCells ei.zero.cells (grownCap w n 0 e' - n)) e')):=(Keeps.drew w).trans (Keeps.alloc w.drew _)
    obtain ⟨hs',hle⟩:=hk.newRow hc kk (e:=e') (xs:=List.replicate n [d]) sh hRN l4 (heap_alloc_new w.drew _) f1 (by rw [List.length_replicate];exact hge) hcm (VDs.mono hkle.rd f2)
    rw [hklen] at hs' hle
    refine ⟨_,_,_,_,_,hr,h3,hs',tr hle,?_⟩
    rw [← hklen]
    have:=rc_arr_new (M0:=c.M0) (E:=E) (L:=L.set j .dead) (e:=e') (n:=1) (xs:=List.replicate n [d]) (sh:=sh) (heap_alloc_new w.drew (.cells (Builtin.zeroCells ei.zero.cells n++Builtin.zeroCells ei.zero.cells (grownCap w n 0 e' - n)) e')) f1
    rwa [List.length_replicate] at this
 | some b =>
   rw [hE] at hbr2 hrel
   obtain ⟨cap,cur,rfl,hh,hsz⟩:=hrel
   obtain ⟨cap',cur',hh',hsz',hxc,hxm,hvx⟩:=hbr2
   rw [hh] at hh';cases hh'
   have ecap:cap=cap':=by omega
   subst ecap
   rw [Nat.mul_one] at hsz hvx
   have hzsl:(xs++List.replicate n [d]).length=xs.length+n:=by simp
   have hall:∀ cs∈xs++List.replicate n [d],cs.length=1:=by
    intro cs hcs
    rcases List.mem_append.1 hcs with h|h
    ·exact hxlen cs h
    ·exact l4 cs h
   have hxcl:(cur.toList.take xs.length).length=xs.length:=by rw [List.length_take,Array.length_toList (xs:=cur)];omega
   rcases Nat.eq_zero_or_pos n with rfl|hnp
   ·simp only [List.replicate_zero,List.append_nil] at h3
    obtain ⟨hs',hle⟩:=hs.relabel hab (zs:=xs) (Nat.le_refl _) (hs.blk j _ hab)
    refine ⟨_,_,_,_,_,run_append_zero_none w t t' ty e' info kq kn hu htn k1 _ _ _ hxc,h3,hs',hle,?_⟩
    rw [hE]
    have:=rc_arr_new (M0:=c.M0) (E:=E) (L:=L.set j .dead) (w:=w) (e:=e') (n:=1) (xs:=xs) (sh:=sh) hh (by omega:cur.size=cap * 1)
    rw [hklen] at this
    exact this
   ·by_cases hroom:xs.length+n≤cap
    ·have hr:=run_append_zero_room (P:=P) w t t' ty e' info ei.zero kq kn hu htn k1 k2 hinfo1 hzc hz1 b xs.length cap cur hh n hnp (by omega) hby2 hroom (by omega)
     have htk:(cur.toList.take xs.length++List.replicate n ei.zero++cur.toList.drop (xs.length+n)).toArray.toList.take (xs.length * 1)=cur.toList.take (xs.length * 1):=by
      simp only [List.append_assoc,Nat.mul_one]
      rw [List.take_append_of_le_length (by omega),List.take_take,Nat.min_self]
     have hsize:(cur.toList.take xs.length++List.replicate n ei.zero++cur.toList.drop (xs.length+n)).toArray.size=cur.size:=by
      simp only [List.size_toArray,List.length_append,List.length_take,List.length_drop,Array.length_toList,List.length_replicate];omega
     obtain ⟨hs1,hle1⟩:=hs.write hab hE hh (cur':=(cur.toList.take xs.length++List.replicate n ei.zero++cur.toList.drop (xs.length+n)).toArray) hsize htk
     have hh1:=setRow_heap w b cur (cur.toList.take xs.length++List.replicate n ei.zero++cur.toList.drop (xs.length+n)).toArray e' (0,0) hh
     have hsz1:(cur.toList.take xs.length++List.replicate n ei.zero++cur.toList.drop (xs.length+n)).toArray.size=cap * 1:=by omega
     obtain ⟨hs2,hle2⟩:=hs1.relabel hab (zs:=xs++List.replicate n [d]) (by simp) (by
      rw [hE]
      refine ⟨hRN,hall,cap,_,hh1,hsz1,by omega,hxm,?_⟩
      rw [List.flatten_append]
      refine VDs.mono hle1.rd ?_
      have e1:(cur.toList.take xs.length++List.replicate n ei.zero++cur.toList.drop (xs.length+n)).toArray.toList.take ((xs++List.replicate n [d]).length * 1)=cur.toList.take xs.length++List.replicate n ei.zero:=by
       have:(xs++List.replicate n [d]).length * 1=(cur.toList.take xs.length++List.replicate n ei.zero).length:=by
        simp only [List.length_append,hxcl,List.length_replicate,Nat.mul_one]
       rw [this]
       exact List.take_left
      rw [e1]
      exact Cs_append hvx l1)
     refine ⟨_,_,_,_,_,hr,h3,hs2,(hle1.trans hle2),?_⟩
     rw [hE]
     have:=rc_arr_new (M0:=c.M0) (E:=E) (L:=L.set j .dead) (e:=e') (n:=1) (xs:=xs++List.replicate n [d]) (sh:=sh) hh1 hsz1
     rw [hklen,hzsl] at this
     exact this
    ·have holds:∀ i u,(cur.toList.take xs.length)[i]? = some u→w.drew.cell? ((⟨b,0,none⟩:Addr).add i)=some u:=by
      intro i u hi
      show w.cell? _=_
      rw [add_lit _ rfl,Nat.zero_add,cell_of_row w b i cur e' (0,0) hh]
      rw [List.getElem?_take] at hi
      split at hi
      ·simpa using hi
      ·cases hi
     have hold:=run_firstCells_some (P:=P) w.drew info.size xs.length ⟨b,0,none⟩ xs.length cap (cur.toList.take xs.length) (by rw [hxcl,hinfo1,Nat.mul_one]) holds
     have hr:=Lib.run_append_grow_zeros (P:=P) w t t' ty e' info ei.zero kq kn hu htn k1 k2 (some ⟨b,0,none⟩) xs.length cap (cur.toList.take xs.length) hold n hnp (by omega) (by omega) (by omega) hby2
      (by rw [k4];exact growslice_fits (by omega) hbound)
     have hge:=grownCap_ge w (xs.length+n) cap e'
     have hcm:=grownCap_le_maxLen w (xs.length+n) cap e' (by unfold maxLen;omega)
     have f1:((cur.toList.take xs.length).toArray++Builtin.zeroCells ei.zero.cells n++Builtin.zeroCells ei.zero.cells (grownCap w (xs.length+n) cap e' - (xs.length+n))).size=grownCap w (xs.length+n) cap e' * 1:=by
      simp only [Array.size_append,size_zeroCells,hzc,List.size_toArray,List.length_cons,List.length_nil,hxcl];omega
     have f2:VDs (rcOf c.M0 E L w).rd (xs++List.replicate n [d]).flatten (((cur.toList.take xs.length).toArray++Builtin.zeroCells ei.zero.cells n++Builtin.zeroCells ei.zero.cells (grownCap w (xs.length+n) cap e' - (xs.length+n))).toList.take ((xs++List.replicate n [d]).length * 1)):=by
      rw [Array.toList_append,Array.toList_append,hzc,zeroCells_one,hzsl,Nat.mul_one]
      have hll:(cur.toList.take xs.length++List.replicate n ei.zero).length=xs.length+n:=by rw [List.length_append,hxcl,List.length_replicate]
      rw [show (cur.toList.take xs.length).toArray.toList=cur.toList.take xs.length from rfl,List.take_append_of_le_length (by omega),List.take_of_length_le (by omega),List.flatten_append]
      exact Cs_append hvx l1
     have kk:Keeps w (w.drew.alloc (.cells ((cur.toList.take xs.length).toArray++Builtin.zeroCells ei.zero.cells n++Builtin.zeroCells ei.zero.cells (grownCap w (xs.length+n) cap e' - (xs.length+n))) e')):=(Keeps.drew w).trans (Keeps.alloc w.drew _)
     obtain ⟨hs',hle⟩:=hk.newRow hc kk (e:=e') (xs:=xs++List.replicate n [d]) sh hRN hall (heap_alloc_new w.drew _) f1 (by rw [hzsl];exact hge) hcm (VDs.mono hkle.rd f2)
     rw [hklen] at hs' hle
     refine ⟨_,_,_,_,_,hr,h3,hs',tr hle,?_⟩
     rw [← hklen,← hzsl]
     exact rc_arr_new (heap_alloc_new w.drew _) (by rw [hzsl];exact f1)
theorem flatten_take1:∀ (xs:List (List DV)),(∀ cs∈xs,cs.length=1)→∀ k:Nat,(xs.take k).flatten=xs.flatten.take k
 | [],_,k=>by simp
 | c :: r,hl,0=>by simp
 | c :: r,hl,k+1=>by
   have hc:c.length=1:=hl c (by simp)
   obtain ⟨x,rfl⟩:=List.length_eq_one_iff.1 hc
   have:=flatten_take1 r (fun x hx=>hl x (by simp [hx])) k
   simp only [List.take_succ_cons,List.flatten_cons,this,List.singleton_append]
theorem flatten_drop1:∀ (xs:List (List DV)),(∀ cs∈xs,cs.length=1)→∀ k:Nat,(xs.drop k).flatten=xs.flatten.drop k
 | [],_,k=>by simp
 | c :: r,hl,0=>by simp
 | c :: r,hl,k+1=>by
   have hc:c.length=1:=hl c (by simp)
   obtain ⟨x,rfl⟩:=List.length_eq_one_iff.1 hc
   have:=flatten_drop1 r (fun x hx=>hl x (by simp [hx])) k
   simp only [List.drop_succ_cons,List.flatten_cons,this,List.singleton_append]
def copyK (tt:TypeId→Option TI) (t:TypeId) (L:List AB) (dst src:AV) (K:AV→List AB→Prop):Prop :=
 ttK tt t fun i=>match sliceElem i.desc with
  | some e=>ttK tt e fun ei=>bif Nat.beq ei.size 1 then srcK L 1 src fun ys L1=>match dst with
    | .sub j h=>lgetK L1 j fun ab=>match ab with
      | .row e' m xs sh=>match sh with
        | true=>False
        | false=>bif Nat.beq m 1 then h≤xs.length∧lsetK L1 j (.row e' 1 (ys.take h++xs.drop (min ys.length h)) false) fun L2=>K (.d (.int .i64 (min ys.length h:Nat))) L2 else False
      | _=>False
    | _=>False
    else False
  | none=>False
theorem copyK_ok {P:Program} {tt:TypeId→Option TI} (ht:TTok P tt) {t t':TypeId} {c:Ctx} (hc:c.wf) {E:Nat→Option Nat} {L:List AB} {w:World} (hs:SimH c E L w) {dst src:AV} {K:AV→List AB→Prop} (h:copyK tt t L dst src K) (ty:TypeId)
  {v u:Value} (hv:VR (rcOf c.M0 E L w) dst v) (hu:VR (rcOf c.M0 E L w) src u) :
  ∃ r w' av L',(Builtin.copy_ #[t,t'] ty #[v,u]).run P w = .ok r w'∧K av L'∧SimH c E L' w'∧(rcOf c.M0 E L w).le (rcOf c.M0 E L' w')∧VR (rcOf c.M0 E L' w') av r:=by
 unfold copyK at h
 replace h:=ttK_ok h
 obtain ⟨i,hi,h⟩:=h
 split at h
 rotate_left
 ·exact h.elim
 rename_i e he
 replace h:=ttK_ok h
 obtain ⟨ei,hei,h⟩:=h
 have hd:i.desc = .slice e:=by
  revert he
  cases i.desc<;>simp [sliceElem]
 obtain ⟨hut,_⟩:=ht t i hi
 rw [hd] at hut
 obtain ⟨_,info,k1,k2,k3,k4⟩:=ht e ei hei
 cases hb0:Nat.beq ei.size 1 with
 | false=>rw [hb0] at h;exact h.elim
 | true =>
 rw [hb0] at h
 simp only [cond_true] at h
 have hsz1:=Nat.eq_of_beq_eq_true hb0
 have hinfo:(P.info? e).map (·.size)=some 1:=by rw [k1];simp [k3,hsz1]
 replace h:=srcK_ok hc hs (by omega) h hu
 obtain ⟨ys,L1,h,hs1,hle1,hyv⟩:=h
 have hv1:=VR.mono hle1 _ _ hv
 split at h
 rotate_left
 ·exact h.elim
 rename_i j n
 replace h:=lgetK_ok h
 obtain ⟨ab,hab,h⟩:=h
 cases ab<;>simp only at h<;>first|exact h.elim|skip
 rename_i e' m xs sh
 cases sh<;>simp only at h<;>first|exact h.elim|skip
 cases hb:Nat.beq m 1 with
 | false=>rw [hb] at h;exact h.elim
 | true =>
 rw [hb] at h
 simp only [cond_true] at h
 have em:=Nat.eq_of_beq_eq_true hb
 subst em
 obtain ⟨hnx,h⟩:=h
 have hK:=lsetK_ok h
 simp only [VR] at hv1
 obtain ⟨p,cap,rfl,_,_,ab',hab',hrel⟩:=hv1
 rw [hab] at hab';cases hab'
 simp only [apRel] at hrel
 obtain ⟨b,hE,hpp⟩:=hrel
 cases hpp
 have hbr:=hs1.blk j _ hab
 obtain ⟨_,hxlen,hbr2⟩:=hbr
 rw [hE] at hbr2
 obtain ⟨cap',cur,hh,hsz,hxc,hxm,hvx⟩:=hbr2
 rw [Nat.mul_one] at hsz hvx
 simp only [VR,VD] at hyv
 obtain ⟨_,q,kcap,rfl,hyc,hym,hqn,hq⟩:=hyv
 have hself:L1.set j (.row e' 1 xs false)=L1:=by
  apply List.ext_getElem?
  intro m
  by_cases hm:m=j
  ·subst hm;rw [getElem?_set_same hab,hab]
  ·rw [getElem?_set_other hm]
 have nothing:min ys.length n=0→∃ r w' av L',(Builtin.copy_ #[t,t'] ty #[.slice (some ⟨b,0 * 1+0,none⟩) n cap,.slice q ys.length kcap]).run P w = .ok r w'∧K av L'∧SimH c E L' w'∧(rcOf c.M0 E L w).le (rcOf c.M0 E L' w')∧VR (rcOf c.M0 E L' w') av r:=by
  intro h0
  have e1:ys.take n++xs.drop (min ys.length n)=xs:=by
   rw [h0,List.drop_zero]
   have:ys.take n=[]:=by
    apply List.eq_nil_of_length_eq_zero
    rw [List.length_take];omega
   rw [this,List.nil_append]
  rw [e1,hself,h0] at hK
  refine ⟨_,w,_,_,run_copy_none (P:=P) w t t' ty e _ _ n cap ys.length kcap hut hinfo (by show min ys.length n=0;exact h0),hK,hs1,hle1,by simp [VR,VD,goInt]⟩
 rcases Nat.eq_zero_or_pos (min ys.length n) with h0|hpos
 ·exact nothing h0
 cases q with
 | none=>have:=hqn rfl;omega
 | some a =>
   obtain ⟨hsp0,_,hvre⟩:=hq a rfl
   rcases hsp0 with hys|hsp
   ·subst hys;simp at hpos
   obtain ⟨us,l1,l2,l3⟩:=VDE_vals 1 hvre hsp
   rw [Nat.mul_one] at l2
   have hy1:∀ cs∈ys,cs.length=1:=by
    intro cs hcs
    obtain ⟨i,hi⟩:=List.mem_iff_getElem?.1 hcs
    exact (VDE_get 1 hvre hsp hi).1
   have hcl:(us.take n).length=min ys.length n:=by rw [List.length_take,l2];omega
   have hr:=run_copy_row (P:=P) w t t' ty e b 0 n cap a ys.length kcap cur e' (us.take n) hut hinfo hh (by rw [hcl]) (by
    intro j v hj
    rw [List.getElem?_take] at hj
    split at hj
    ·have:=l3 j v hj
     rw [add_lit a hsp];exact (rd_cell this rfl).1
    ·cases hj) (by omega) (by
    intro v hv
    exact Cs_one l1 v (List.mem_of_mem_take hv))
   have hcurl:cur.toList.length=cap':=by rw [Array.length_toList (xs:=cur),hsz]
   have hzl:(ys.take n++xs.drop (min ys.length n)).length=xs.length:=by
    rw [List.length_append,List.length_take,List.length_drop];omega
   have hzn:∀ cs∈ys.take n++xs.drop (min ys.length n),cs.length=1:=by
    intro cs hcs
    rcases List.mem_append.1 hcs with h|h
    ·exact hy1 cs (List.mem_of_mem_take h)
    ·exact hxlen cs (List.mem_of_mem_drop h)
   obtain ⟨hs2,hle2⟩:=hs1.rewrite hab hE hh (zs:=ys.take n++xs.drop (min ys.length n)) (cur':=(cur.toList.take 0++us.take n++cur.toList.drop (0+(us.take n).length)).toArray) (by
    rw [List.size_toArray,List.length_append,List.length_append,List.length_drop,hcurl,hcl,hsz];simp;omega) hzl hzn (by
    rw [hzl,Nat.mul_one,List.flatten_append,flatten_take1 ys hy1,flatten_drop1 xs hxlen]
    have e2:(cur.toList.take 0++us.take n++cur.toList.drop (0+(us.take n).length)).toArray.toList.take xs.length=us.take n++(cur.toList.take xs.length).drop (min ys.length n):=by
     simp only [List.take_zero,List.nil_append,Nat.zero_add,hcl]
     rw [List.take_append,hcl,List.take_of_length_le (by omega),List.drop_take]
    rw [e2]
    exact Cs_append (Cs_take _ l1) (Cs_drop _ hvx))
   exact ⟨_,_,_,_,hr,hK,hs2,hle1.trans hle2,by simp [VR,VD,goInt,hcl]⟩
end
end Go.Ab
set_option linter.unusedVariables false
set_option linter.unusedSimpArgs false
namespace Go.Ab
noncomputable section
open Go.RowKit
def appendSK (tt:TypeId→Option TI) (t t':TypeId) (L:List AB) (s x:AV) (K:AV→List AB→Prop):Prop :=
 ttK tt t fun i=>match sliceElem i.desc with
  | some e=>ttK tt e fun ei=>ttK tt t' fun ni=>bif Nat.beq ei.size 1&&Nat.ble 1 ei.bytes&&isStrD ni.desc then match x with
     | .d (.str bs)=>match s with
       | .arr j=>lgetK L j fun ab=>match ab with
         | .row e' m xs sh=>bif Nat.beq m 1&&Nat.beq e' e then (xs.length+bs.size) * ei.bytes≤140737488355328 ∧
            lsetK L j .dead fun L1=>lpushK L1 (.row e 1 (xs++u8s bs.data.toList) sh) 0 fun j' L'=>K (.arr j') L' else False
         | _=>False
       | _=>False
     | _=>False
     else False
  | none=>False
theorem run_append_string_none {P:Program} (w:World) (t tn ty e:TypeId) (i:TypeInfo) (ht:P.underlying t=some (.slice e)) (htn:P.underlying tn=some .string) (hi:P.info? e=some i)
  (base:Option Addr) (sLen sCap:Nat) (h:sLen≤sCap) (s:ByteArray) (h0:s.size=0) :
  (Builtin.append_ #[t,tn] ty #[.slice base sLen sCap,.string s]).run P w = .ok (.slice base sLen sCap) w:=by
 have hf:=Lib.run_firstCells_string (P:=P) w i.size s
 have hs:Lib.strCells s=[]:=List.eq_nil_of_length_eq_zero (by rw [Lib.strCells_length,h0])
 rw [h0,hs] at hf
 cases base<;>simp [Builtin.append_,run_underlying ht,run_underlying htn,sizeOf,typeInfo,hi,Builtin.lenOf,h0,h,hf,storeCells]
theorem appendSK_ok {P:Program} {tt:TypeId→Option TI} (ht:TTok P tt) (hzo:∀ e ei,tt e=some ei→ei.zero.cells.size=ei.size) {t t':TypeId} {c:Ctx} (hc:c.wf) {E:Nat→Option Nat} {L:List AB} {w:World} (hs:SimH c E L w) {s x:AV} {K:AV→List AB→Prop} (h:appendSK tt t t' L s x K) (ty:TypeId)
  {v u:Value} (hv:VR (rcOf c.M0 E L w) s v) (hu':VR (rcOf c.M0 E L w) x u) :
  ∃ r w' E' av L',(Builtin.append_ #[t,t'] ty #[v,u]).run P w = .ok r w'∧K av L'∧SimH c E' L' w'∧(rcOf c.M0 E L w).le (rcOf c.M0 E' L' w')∧VR (rcOf c.M0 E' L' w') av r:=by
 unfold appendSK at h
 replace h:=ttK_ok h
 obtain ⟨i,hi,h⟩:=h
 split at h
 rotate_left
 ·exact h.elim
 rename_i e he
 replace h:=ttK_ok h
 obtain ⟨ei,hei,h⟩:=h
 replace h:=ttK_ok h
 obtain ⟨ni,hni,h⟩:=h
 have hd:i.desc = .slice e:=by
  revert he
  cases i.desc<;>simp [sliceElem]
 obtain ⟨hu,_⟩:=ht t i hi
 rw [hd] at hu
 obtain ⟨htn,_⟩:=ht t' ni hni
 obtain ⟨_,info,k1,k2,k3,k4⟩:=ht e ei hei
 cases hb0:(Nat.beq ei.size 1&&Nat.ble 1 ei.bytes&&isStrD ni.desc) with
 | false=>rw [hb0] at h;exact h.elim
 | true =>
 rw [hb0] at h
 simp only [cond_true] at h
 simp only [Bool.and_eq_true] at hb0
 have hsz1:=Nat.eq_of_beq_eq_true hb0.1.1
 have hRN:RN e 1:=⟨by omega,by rw [ht.sz e ei hei];exact hsz1⟩
 have hby:0<ei.bytes:=Nat.le_of_ble_eq_true hb0.1.2
 have hdn:ni.desc = .string:=by
  have:=hb0.2
  revert this
  cases ni.desc<;>simp [isStrD]
 rw [hdn] at htn
 have hinfo1:info.size=1:=by rw [k3,hsz1]
 split at h
 rotate_left
 ·exact h.elim
 rename_i bs
 simp only [VR,VD] at hu'
 subst hu'
 split at h
 rotate_left
 ·exact h.elim
 rename_i j
 have hz0:ei.zero.cells.size=1:=by rw [hzo e ei hei,hsz1]
 obtain ⟨ab,hab,h1⟩:=lgetK_ok h
 cases ab<;>simp only at h1<;>first|exact h1.elim|skip
 rename_i e' m xs sh
 cases hb:(Nat.beq m 1&&Nat.beq e' e) with
 | false=>rw [hb] at h1;exact h1.elim
 | true =>
 rw [hb] at h1
 simp only [Bool.and_eq_true] at hb
 have em:=Nat.eq_of_beq_eq_true hb.1
 have ee:=Nat.eq_of_beq_eq_true hb.2
 subst em;subst ee
 obtain ⟨hbound,h2⟩:=h1
 have hsc:=Lib.strCells_length bs
 have hul:(u8s bs.data.toList).length=bs.size:=by rw [u8s_length,Array.length_toList];rfl
 have hys:bs.size=0→u8s bs.data.toList=[]:=fun h=>List.eq_nil_of_length_eq_zero (by omega)
 generalize hnn:bs.size=n at *
 have h3:=lpushK_ok (lsetK_ok h2)
 rw [Nat.zero_add] at h3
 simp only [List.length_set] at h3
 have hbr:=hs.blk j _ hab
 obtain ⟨_,hxlen,hbr2⟩:=hbr
 have hlt:j<L.length:=(List.getElem?_eq_some_iff.1 hab).1
 simp only [VR] at hv
 obtain ⟨ab',hab',hrel⟩:=hv
 rw [hab] at hab';cases hab'
 simp only [arRel] at hrel
 obtain ⟨hk,hkle⟩:=hs.kill hab
 have hklen:(L.set j AB.dead).length=L.length:=by simp
 have l1:VDs (rcOf c.M0 E L w).rd (u8s bs.data.toList).flatten (Lib.strCells bs):=u8s_VDs bs.data.toList
 have l4:∀ cs∈u8s bs.data.toList,cs.length=1:=u8s_one _
 have hbn:(xs.length+n)≤140737488355328:=Nat.le_trans (Nat.le_mul_of_pos_right _ hby) hbound
 have hby2:n * info.bytes≤281474976710656:=by
  rw [k4]
  have:n * ei.bytes≤(xs.length+n) * ei.bytes:=Nat.mul_le_mul_right _ (by omega)
  omega
 have tr:∀ {E2:Nat→Option Nat} {L2:List AB} {w2:World},(rcOf c.M0 E (L.set j AB.dead) w).le (rcOf c.M0 E2 L2 w2)→(rcOf c.M0 E L w).le (rcOf c.M0 E2 L2 w2) :=
  fun hle=>(hkle.trans hle)
 cases hE:E j with
 | none =>
   rw [hE] at hbr2 hrel
   simp only at hbr2 hrel
   subst hbr2;subst hrel
   simp only [List.nil_append,List.length_nil,Nat.zero_add] at h3 hbn
   rcases Nat.eq_zero_or_pos n with hn0|hnp
   ·rw [hys hn0] at h3
    obtain ⟨hs',hle⟩:=hk.nilRow hc e' 1 sh hRN
    rw [hklen] at hs' hle
    exact ⟨_,_,_,_,_,run_append_string_none w t t' ty e' info hu htn k1 none 0 0 (Nat.le_refl _) bs (by omega),h3,hs',tr hle,by rw [← hklen];exact rc_arr_nil⟩
   ·have hr:=run_append_nil_string (P:=P) w t t' ty e' info ei.zero hu htn k1 k2 bs (by omega) (by omega) (by rw [hnn];exact hby2)
    rw [hnn] at hr
    have hge:=grownCap_ge w n 0 e'
    have hcm:=grownCap_le_maxLen w n 0 e' (by unfold maxLen;omega)
    have f1:(bs.data.map (fun b=>Value.int .u8 b.toNat)++Builtin.zeroCells ei.zero.cells (grownCap w n 0 e' - n)).size=grownCap w n 0 e' * 1:=by
     rw [Array.size_append,size_zeroCells,hz0,Array.size_map,show bs.data.size=n from hnn];omega
    have f2:VDs (rcOf c.M0 E L w).rd (u8s bs.data.toList).flatten ((bs.data.map (fun b=>Value.int .u8 b.toNat)++Builtin.zeroCells ei.zero.cells (grownCap w n 0 e' - n)).toList.take ((u8s bs.data.toList).length * 1)):=by
     have e0:(bs.data.map (fun b=>Value.int .u8 b.toNat)).toList=Lib.strCells bs:=by simp [Lib.strCells]
     rw [Array.toList_append,e0,hul,Nat.mul_one]
     rw [List.take_append_of_le_length (by omega),List.take_of_length_le (by omega)]
     exact l1
    have kk:Keeps w (w.drew.alloc (.cells (bs.data.map (fun b=>Value.int .u8 b.toNat)++Builtin.zeroCells ei.zero.cells (grownCap w n 0 e' - n)) e')):=(Keeps.drew w).trans (Keeps.alloc w.drew _)
    obtain ⟨hs',hle⟩:=hk.newRow hc kk (e:=e') (xs:=u8s bs.data.toList) sh hRN l4 (heap_alloc_new w.drew _) f1 (by rw [hul];exact hge) hcm (VDs.mono hkle.rd f2)
    rw [hklen] at hs' hle
    refine ⟨_,_,_,_,_,hr,h3,hs',tr hle,?_⟩
    rw [← hklen]
    have:=rc_arr_new (M0:=c.M0) (E:=E) (L:=L.set j .dead) (e:=e') (n:=1) (xs:=u8s bs.data.toList) (sh:=sh) (heap_alloc_new w.drew (.cells (bs.data.map (fun b=>Value.int .u8 b.toNat)++Builtin.zeroCells ei.zero.cells (grownCap w n 0 e' - n)) e')) f1
    rwa [hul] at this
 | some b =>
   rw [hE] at hbr2 hrel
   obtain ⟨cap,cur,rfl,hh,hsz⟩:=hrel
   obtain ⟨cap',cur',hh',hsz',hxc,hxm,hvx⟩:=hbr2
   rw [hh] at hh';cases hh'
   have ecap:cap=cap':=by omega
   subst ecap
   rw [Nat.mul_one] at hsz hvx
   have hzsl:(xs++u8s bs.data.toList).length=xs.length+n:=by rw [List.length_append,hul]
   have hall:∀ cs∈xs++u8s bs.data.toList,cs.length=1:=by
    intro cs hcs
    rcases List.mem_append.1 hcs with h|h
    ·exact hxlen cs h
    ·exact l4 cs h
   have hxcl:(cur.toList.take xs.length).length=xs.length:=by rw [List.length_take,Array.length_toList (xs:=cur)];omega
   rcases Nat.eq_zero_or_pos n with hn0|hnp
   ·rw [hys hn0,List.append_nil] at h3
    obtain ⟨hs',hle⟩:=hs.relabel hab (zs:=xs) (Nat.le_refl _) (hs.blk j _ hab)
    refine ⟨_,_,_,_,_,run_append_string_none w t t' ty e' info hu htn k1 _ _ _ hxc bs (by omega),h3,hs',hle,?_⟩
    rw [hE]
    have:=rc_arr_new (M0:=c.M0) (E:=E) (L:=L.set j .dead) (w:=w) (e:=e') (n:=1) (xs:=xs) (sh:=sh) hh (by omega:cur.size=cap * 1)
    rw [hklen] at this
    exact this
   ·by_cases hroom:xs.length+n≤cap
    ·have hr:=Lib.run_append_room_string (P:=P) w t t' ty e' info hu htn k1 hinfo1 b xs.length cap cur hh bs (by omega) (by omega)
     rw [hnn] at hr
     have htk:(cur.toList.take xs.length++Lib.strCells bs++cur.toList.drop (xs.length+n)).toArray.toList.take (xs.length * 1)=cur.toList.take (xs.length * 1):=by
      simp only [List.append_assoc,Nat.mul_one]
      rw [List.take_append_of_le_length (by omega),List.take_take,Nat.min_self]
     have hsize:(cur.toList.take xs.length++Lib.strCells bs++cur.toList.drop (xs.length+n)).toArray.size=cur.size:=by
      simp only [List.size_toArray,List.length_append,List.length_take,List.length_drop,Array.length_toList,hsc];omega
     obtain ⟨hs1,hle1⟩:=hs.write hab hE hh (cur':=(cur.toList.take xs.length++Lib.strCells bs++cur.toList.drop (xs.length+n)).toArray) hsize htk
     have hh1:=setRow_heap w b cur (cur.toList.take xs.length++Lib.strCells bs++cur.toList.drop (xs.length+n)).toArray e' (0,0) hh
     have hsz1:(cur.toList.take xs.length++Lib.strCells bs++cur.toList.drop (xs.length+n)).toArray.size=cap * 1:=by omega
     obtain ⟨hs2,hle2⟩:=hs1.relabel hab (zs:=xs++u8s bs.data.toList) (by simp) (by
      rw [hE]
      refine ⟨hRN,hall,cap,_,hh1,hsz1,by omega,hxm,?_⟩
      rw [List.flatten_append]
      refine VDs.mono hle1.rd ?_
      have e1:(cur.toList.take xs.length++Lib.strCells bs++cur.toList.drop (xs.length+n)).toArray.toList.take ((xs++u8s bs.data.toList).length * 1)=cur.toList.take xs.length++Lib.strCells bs:=by
       have:(xs++u8s bs.data.toList).length * 1=(cur.toList.take xs.length++Lib.strCells bs).length:=by
        rw [hzsl,Nat.mul_one,List.length_append,hxcl,hsc]
       rw [this]
       exact List.take_left
      rw [e1]
      exact Cs_append hvx l1)
     refine ⟨_,_,_,_,_,hr,h3,hs2,(hle1.trans hle2),?_⟩
     rw [hE]
     have:=rc_arr_new (M0:=c.M0) (E:=E) (L:=L.set j .dead) (e:=e') (n:=1) (xs:=xs++u8s bs.data.toList) (sh:=sh) hh1 hsz1
     rw [hklen,hzsl] at this
     exact this
    ·have holds:∀ i u,(cur.toList.take xs.length)[i]? = some u→w.cell? ((⟨b,0,none⟩:Addr).add i)=some u:=by
      intro i u hi
      rw [add_lit _ rfl,Nat.zero_add,cell_of_row w b i cur e' (0,0) hh]
      rw [List.getElem?_take] at hi
      split at hi
      ·simpa using hi
      ·cases hi
     have hr:=Lib.run_append_grow_string (P:=P) w t t' ty e' info ei.zero hu htn k1 k2 ⟨b,0,none⟩ xs.length cap (cur.toList.take xs.length) (by rw [hxcl,hinfo1,Nat.mul_one]) holds bs (by omega) (by omega)
      (by rw [k4,hnn];exact growslice_fits (by omega) hbound)
     rw [hnn] at hr
     have hge:=grownCap_ge w (xs.length+n) cap e'
     have hcm:=grownCap_le_maxLen w (xs.length+n) cap e' (by unfold maxLen;omega)
     have f1:((cur.toList.take xs.length).toArray++(Lib.strCells bs).toArray++Builtin.zeroCells ei.zero.cells (grownCap w (xs.length+n) cap e' - (xs.length+n))).size=grownCap w (xs.length+n) cap e' * 1:=by
      rw [Array.size_append,Array.size_append,size_zeroCells,hz0,List.size_toArray,List.size_toArray,hxcl,hsc];omega
     have f2:VDs (rcOf c.M0 E L w).rd (xs++u8s bs.data.toList).flatten (((cur.toList.take xs.length).toArray++(Lib.strCells bs).toArray++Builtin.zeroCells ei.zero.cells (grownCap w (xs.length+n) cap e' - (xs.length+n))).toList.take ((xs++u8s bs.data.toList).length * 1)):=by
      rw [Array.toList_append,Array.toList_append,hzsl,Nat.mul_one]
      have hll:(cur.toList.take xs.length++Lib.strCells bs).length=xs.length+n:=by rw [List.length_append,hxcl,hsc]
      rw [show (cur.toList.take xs.length).toArray.toList=cur.toList.take xs.length from rfl,show (Lib.strCells bs).toArray.toList=Lib.strCells bs from rfl,List.take_append_of_le_length (by omega),List.take_of_length_le (by omega),List.flatten_append]
      exact Cs_append hvx l1
     have kk:Keeps w (w.drew.alloc (.cells ((cur.toList.take xs.length).toArray++(Lib.strCells bs).toArray++Builtin.zeroCells ei.zero.cells (grownCap w (xs.length+n) cap e' - (xs.length+n))) e')):=(Keeps.drew w).trans (Keeps.alloc w.drew _)
     obtain ⟨hs',hle⟩:=hk.newRow hc kk (e:=e') (xs:=xs++u8s bs.data.toList) sh hRN hall (heap_alloc_new w.drew _) f1 (by rw [hzsl];exact hge) hcm (VDs.mono hkle.rd f2)
     rw [hklen] at hs' hle
     refine ⟨_,_,_,_,_,hr,h3,hs',tr hle,?_⟩
     rw [← hklen,← hzsl]
     exact rc_arr_new (heap_alloc_new w.drew _) (by rw [hzsl];exact f1)
def appendXK (tt:TypeId→Option TI) (t t':TypeId) (L:List AB) (s x:AV) (K:AV→List AB→Prop):Prop :=
 ttK tt t' fun ni=>bif isStrD ni.desc then appendSK tt t t' L s x K else appendZK tt t t' L s x K
theorem appendXK_ok {P:Program} {tt:TypeId→Option TI} (ht:TTok P tt) (hzo:∀ e ei,tt e=some ei→ei.zero.cells.size=ei.size) {t t':TypeId} {c:Ctx} (hc:c.wf) {E:Nat→Option Nat} {L:List AB} {w:World} (hs:SimH c E L w) {s x:AV} {K:AV→List AB→Prop} (h:appendXK tt t t' L s x K) (ty:TypeId)
  {v u:Value} (hv:VR (rcOf c.M0 E L w) s v) (hu':VR (rcOf c.M0 E L w) x u) :
  ∃ r w' E' av L',(Builtin.append_ #[t,t'] ty #[v,u]).run P w = .ok r w'∧K av L'∧SimH c E' L' w'∧(rcOf c.M0 E L w).le (rcOf c.M0 E' L' w')∧VR (rcOf c.M0 E' L' w') av r:=by
 obtain ⟨ni,_,h1⟩:=ttK_ok h
 cases hb:isStrD ni.desc with
 | true=>rw [hb] at h1;exact appendSK_ok ht hzo hc hs h1 ty hv hu'
 | false=>rw [hb] at h1;exact appendZK_ok ht hc hs h1 ty hv hu'
end
end Go.Ab
namespace Go.Ab
noncomputable section
open Go.RowKit
def makeSliceK (tt:TypeId→Option TI) (t:TypeId) (l c:AV) (L:List AB) (K:AV→List AB→Prop):Prop :=
 ttK tt t fun i=>match sliceElem i.desc with
  | some e=>ttK tt e fun ei=>bif Nat.beq ei.size 1 then zeroDK ei.zero fun d=>match l with
     | .d (.int _ n)=>match c with
       | .d (.int _ m)=>n=m∧0≤n∧n.toNat * ei.bytes≤140737488355328∧n≤140737488355328∧lpushK L (.row e 1 (List.replicate n.toNat [d]) false) 0 fun j L'=>K (.arr j) L'
       | _=>False
     | _=>False
    else False
  | none=>False
theorem madeCells_one (v:Value) (n:Nat):(madeCells #[v] n).toList=List.replicate n v:=by
 unfold madeCells
 apply List.ext_getElem
 ·simp
 ·intro k h1 h2
  simp [Nat.mod_one]
theorem makeSliceK_ok {P:Program} {tt:TypeId→Option TI} (ht:TTok P tt) {t:TypeId} {c:Ctx} (hc:c.wf) {E:Nat→Option Nat} {L:List AB} {w:World} (hs:SimH c E L w) {x y:AV} {K:AV→List AB→Prop} (h:makeSliceK tt t x y L K)
  {v u:Value} (hv:VR (rcOf c.M0 E L w) x v) (hu':VR (rcOf c.M0 E L w) y u) :
  ∃ r w' E' av L',(Instr.makeSlice t v u).run P w = .ok r w'∧K av L'∧SimH c E' L' w'∧(rcOf c.M0 E L w).le (rcOf c.M0 E' L' w')∧VR (rcOf c.M0 E' L' w') av r:=by
 unfold makeSliceK at h
 replace h:=ttK_ok h
 obtain ⟨i,hi,h⟩:=h
 split at h
 rotate_left
 ·exact h.elim
 rename_i e he
 replace h:=ttK_ok h
 obtain ⟨ei,hei,h⟩:=h
 have hd:i.desc = .slice e:=by
  revert he
  cases i.desc<;>simp [sliceElem]
 obtain ⟨hu,_⟩:=ht t i hi
 rw [hd] at hu
 obtain ⟨_,info,k1,k2,k3,k4⟩:=ht e ei hei
 cases hb0:(Nat.beq ei.size 1) with
 | false=>rw [hb0] at h;exact h.elim
 | true =>
 rw [hb0] at h
 simp only [cond_true] at h
 have hsz1:=Nat.eq_of_beq_eq_true hb0
 have hRN:RN e 1:=⟨by omega,by rw [ht.sz e ei hei];exact hsz1⟩
 replace h:=zeroDK_ok h
 obtain ⟨d,h,hzc,hz1,hzd⟩:=h
 split at h
 rotate_left
 ·exact h.elim
 rename_i kq n
 simp only [VR,VD] at hv
 subst hv
 split at h
 rotate_left
 ·exact h.elim
 rename_i kq' m
 simp only [VR,VD] at hu'
 subst hu'
 obtain ⟨rfl,hn0,hbound,hn1,h⟩:=h
 obtain ⟨n,rfl⟩:=Int.eq_ofNat_of_zero_le hn0
 simp only [Int.toNat_natCast] at hbound h
 have h3:=lpushK_ok h
 rw [Nat.zero_add] at h3
 have hby:(info.bytes:Int) * (n:Int)≤281474976710656:=by
  have h:((info.bytes * n:Nat):Int)≤281474976710656:=by rw [k4,Nat.mul_comm];omega
  rwa [Int.natCast_mul] at h
 have hr:=run_make (P:=P) w t e info ei.zero hu k1 k2 kq kq' (n:Int) (n:Int) hn0 (Int.le_refl _) hby (by omega)
 simp only [Int.toNat_natCast] at hr
 rw [hzc,k3,hsz1,Nat.mul_one] at hr
 have hml:(madeCells #[ei.zero] n).size=n * 1:=by rw [← Array.length_toList,madeCells_one];simp
 obtain ⟨hs',hle⟩:=hs.newRow hc (Keeps.alloc w (.cells (madeCells #[ei.zero] n) e)) (e:=e) (cap:=n) (xs:=List.replicate n [d]) false hRN (by intro cs hcs;rw [(List.mem_replicate.1 hcs).2];rfl) (heap_alloc_new w _) hml (by simp) (by unfold maxLen;omega) (by
  rw [madeCells_one,List.length_replicate,Nat.mul_one,List.take_of_length_le (by simp)]
  exact VDs_replicate hz1 (hzd _) n)
 refine ⟨_,_,_,_,_,hr,h3,hs',hle,?_⟩
 have:=rc_arr_new (M0:=c.M0) (E:=E) (L:=L) (e:=e) (n:=1) (xs:=List.replicate n [d]) (sh:=false) (heap_alloc_new w (.cells (madeCells #[ei.zero] n) e)) hml
 rwa [List.length_replicate] at this
end
end Go.Ab
namespace Go.Ab
noncomputable section
open Go.RowKit
def shpA:AV→Bool
 | .d (.int _ _)=>true
 | _=>false
def shpL (xs:List AV):List Bool:=List.rec (motive:=fun _=>List Bool) [] (fun x _ ih=>shpA x :: ih) xs
def fldB (P:Program) (b:Bool) (t:TypeId):Bool :=
 match P.underlying t with
 | some (.int _)=>b
 | some .string => !b
 | _=>false
def flatB (P:Program):List Field→Nat→List Bool→Bool
 | [],_,[]=>true
 | f :: r,n,b :: l=>decide (f.name ≠ "_")&&Nat.beq f.offset n&&fldB P b f.type&&flatB P r (n+1) l
 | _,_,_=>false
def eqOkB (P:Program) (t:TypeId) (l:List Bool):Bool :=
 (match P.underlying t with|some (.struct fs)=>flatB P fs.toList 0 l|_=>false) && !(P.eqGuardType P.depth t) && !(P.stoodInHeld t)
def eqcK (x y:AV) (K:Bool→Prop):Prop :=
 match x,y with
 | .d (.int k a),.d (.int k' b)=>bif keq k k' then K (a == b) else False
 | .d (.str a),.d (.str b)=>K (a.toList == b.toList)
 | _,_=>False
def eqsK (xs ys:List AV) (K:Bool→Prop):Prop :=
 List.rec (motive:=fun _=>List AV→(Bool→Prop)→Prop) (fun ys K=>match ys with|[]=>K true|_=>False)
  (fun x _ ih ys K=>match ys with|[]=>False|y :: r=>eqcK x y fun b=>ih r fun c=>K (b&&c)) xs ys K
def isAggA (x:AV):Bool :=
 match x with
 | .agg _=>true
 | _=>false
def aggK (P:Program) (op:BinOp) (t:TypeId) (x y:AV) (K:AV→Prop):Prop :=
 match x,y with
 | .agg xs,.agg ys =>
   match op with
   | .eql=>eqOkB P t (shpL xs)=true∧eqsK xs ys fun b=>K (.d (.bool b))
   | .neq=>eqOkB P t (shpL xs)=true∧eqsK xs ys fun b=>K (.d (.bool (!b)))
   | _=>False
 | _,_=>False
theorem eqcK_ok {P:Program} {w:World} {R:RC} {x y:AV} {K:Bool→Prop} (h:eqcK x y K) {u v:Value} (hu:VR R x u) (hv:VR R y v) {t:TypeId} (hf:fldB P (shpA x) t=true) (d:Nat) :
  ∃ b,(Op.equalIn (d+1) t u v).run P w = .ok b w∧K b:=by
 unfold eqcK at h
 split at h
 ·rename_i k a k' b
  simp only [VR,VD] at hu hv
  subst hu;subst hv
  cases hk:keq k k' with
  | false=>rw [hk] at h;exact h.elim
  | true =>
    rw [hk] at h
    have:=keq_eq hk
    subst this
    unfold fldB at hf
    split at hf
    ·rename_i k2 hu2
     exact ⟨_,run_equalIn_int w d t k k2 a b hu2,h⟩
    ·simp [shpA] at hf
    ·cases hf
 ·rename_i a b
  simp only [VR,VD] at hu hv
  subst hu;subst hv
  unfold fldB at hf
  split at hf
  ·simp [shpA] at hf
  ·rename_i hu2
   exact ⟨_,run_equalIn_string w d t a b hu2,h⟩
  ·cases hf
 ·exact h.elim
theorem run_part_flat {P:Program} {w:World} {e:TypeId} {b:Bool} (he:fldB P b e=true) {xs:Array Value} {off:Nat} {v:Value} (hx:xs[off]? = some v):(part e xs off).run P w = .ok v w:=by
 unfold fldB at he
 split at he
 ·rename_i hu
  simp [part,isAgg,run_underlying hu,hx]
 ·rename_i hu
  simp [part,isAgg,run_underlying hu,hx]
 ·cases he
theorem drop_cons_at {α:Type} {l r:List α} {n:Nat} {u:α} (h:l.drop n=u :: r):l[n]? = some u∧l.drop (n+1)=r:=by
 have h1:l[n]? = some u:=by
  have:=congrArg (fun x=>x[0]?) h
  simpa using this
 refine ⟨h1,?_⟩
 have:=congrArg (List.drop 1) h
 simpa [List.drop_drop,Nat.add_comm] using this
theorem eqFields_ok {P:Program} {w:World} {R:RC} {U V:Array Value} (d:Nat):∀ {fs:List Field} {n:Nat} {xs ys:List AV} {K:Bool→Prop},flatB P fs n (shpL xs)=true→VRs R xs (U.toList.drop n)→VRs R ys (V.toList.drop n)→eqsK xs ys K →
  ∃ b,(Op.eqFields (d+1) U V fs).run P w = .ok b w∧K b
 | [],n,[],ys,K,hf,hu,hv,h=>by
   cases ys with
   | nil=>exact ⟨true,rfl,h⟩
   | cons y r=>exact (show False from h).elim
 | [],n,x :: xs,ys,K,hf,hu,hv,h=>by cases hf
 | f :: r,n,[],ys,K,hf,hu,hv,h=>by cases hf
 | f :: r,n,x :: xs,[],K,hf,hu,hv,h=>(show False from h).elim
 | f :: r,n,x :: xs,y :: ys,K,hf,hu,hv,h=>by
   replace hf:(decide (f.name ≠ "_")&&Nat.beq f.offset n&&fldB P (shpA x) f.type&&flatB P r (n+1) (shpL xs))=true:=hf
   simp only [Bool.and_eq_true,decide_eq_true_iff] at hf
   obtain ⟨⟨⟨f1,f2⟩,f3⟩,f4⟩:=hf
   have f2:=Nat.eq_of_beq_eq_true f2
   simp only [VRs] at hu hv
   obtain ⟨u,us',eu,_,hu1,hu2⟩:=hu
   obtain ⟨v,vs',ev,_,hv1,hv2⟩:=hv
   obtain ⟨a1,a2⟩:=drop_cons_at eu
   obtain ⟨b1,b2⟩:=drop_cons_at ev
   replace h:eqcK x y fun b=>eqsK xs ys fun c=>K (b&&c):=h
   obtain ⟨b,hb,hk⟩:=eqcK_ok (P:=P) (w:=w) h hu1 hv1 f3 d
   obtain ⟨c,hc,hkc⟩:=eqFields_ok (P:=P) (w:=w) (R:=R) (U:=U) (V:=V) d f4 (by rw [a2];exact hu2) (by rw [b2];exact hv2) hk
   have p1:(part f.type U f.offset).run P w = .ok u w:=run_part_flat f3 (by rw [f2,← Array.getElem?_toList];exact a1)
   have p2:(part f.type V f.offset).run P w = .ok v w:=run_part_flat f3 (by rw [f2,← Array.getElem?_toList];exact b1)
   cases b with
   | true =>
     refine ⟨c,?_,by simpa using hkc⟩
     simp only [Op.eqFields,if_pos f1,Sem.run_bind,p1,p2,Result.andThen_ok,hb,Bool.not_true,Bool.false_eq_true,if_false]
     exact hc
   | false =>
     refine ⟨false,?_,by simpa using hkc⟩
     simp only [Op.eqFields,if_pos f1,Sem.run_bind,p1,p2,Result.andThen_ok,hb,Bool.not_false,if_true]
     rfl
theorem aggK_ok {P:Program} {w:World} {R:RC} {op:BinOp} {t:TypeId} {x y:AV} {K:AV→Prop} (h:aggK P op t x y K) {u v:Value} (hu:VR R x u) (hv:VR R y v) (xo yo:Operand) :
  ∃ r av,(eqGuard op t xo yo u v).run P w = .ok () w∧(binOp op t u v).run P w = .ok r w∧K av∧∀ R,VR R av r:=by
 unfold aggK at h
 split at h
 ·rename_i xs ys
  simp only [VR] at hu hv
  obtain ⟨us,rfl,hu⟩:=hu
  obtain ⟨vs,rfl,hv⟩:=hv
  have key:∀ K',eqOkB P t (shpL xs)=true→eqsK xs ys K'→∃ b,(∀ op,(eqGuard op t xo yo (.agg us) (.agg vs)).run P w = .ok () w)∧(Op.equalIn 10000 t (.agg us) (.agg vs)).run P w = .ok b w∧K' b:=by
   intro K' h1 h2
   unfold eqOkB at h1
   simp only [Bool.and_eq_true,Bool.not_eq_true'] at h1
   obtain ⟨⟨h1,h3⟩,h4⟩:=h1
   split at h1
   ·rename_i fs hfs
    have hfo:P.fieldsOf t=fs:=by rw [Program.fieldsOf,hfs]
    obtain ⟨b,hb,hk⟩:=eqFields_ok (P:=P) (w:=w) (R:=R) (U:=us) (V:=vs) 9998 h1 (by simpa using hu) (by simpa using hv) h2
    refine ⟨b,fun op=>run_eqGuard_agg w op t xo yo us vs h3,?_,hk⟩
    rw [show (10000:Nat)=9999+1 from rfl,run_equalIn_agg w 9999 t us vs (by rw [hfo];exact hfs) h4,hfo]
    exact hb
   ·cases h1
  split at h
  ·obtain ⟨b,g1,g2,g3⟩:=key _ h.1 h.2
   exact ⟨.bool b,_,g1 _,by rw [run_eql_struct,g2];rfl,g3,fun R=>by simp [VR,VD]⟩
  ·obtain ⟨b,g1,g2,g3⟩:=key _ h.1 h.2
   exact ⟨.bool (!b),_,g1 _,by rw [run_neq_struct,g2];rfl,g3,fun R=>by simp [VR,VD]⟩
  ·exact h.elim
 ·exact h.elim
end
end Go.Ab
