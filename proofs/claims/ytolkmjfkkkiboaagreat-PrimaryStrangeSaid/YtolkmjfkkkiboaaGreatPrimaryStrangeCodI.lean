/- PrimaryStrange: contracts. -/
import Derived.Test.YtolkmjfkkkiboaaGreatPrimaryStrangeCodH
import Derived.Shelf.Spec.SlicesInsertGrow
set_option linter.unusedVariables false
set_option linter.unusedSimpArgs false
namespace Go.Proofs.YtolkmjfkkkiboaaGreat
open Go Go.Ab Go.RowKit Go.Lib Go.Proofs Go.Shelf
set_option maxRecDepth 100000
theorem insVote_shift (b n c i vb vc:Nat) (cs vs:List Value) {cur curv:Array Value} (w:World) (hi:i<n) (hroom:n+1≤c) (hc63:c≤9223372036854775807) (hvb:vb≠b)
  (hcur:w.heap[b]? = some (.cells cur 106 (0,0))) (hsz:cur.size=c * 3) (hcv:w.heap[vb]? = some (.cells curv 106 (0,0))) (hvl:curv.toList.take 3=vs) (hv6:vs.length=3)
  (hcs:cur.toList.take (n * 3)=cs) (h1c:∀ v∈cs,v.oneCell'=true) (h1v:∀ v∈vs,v.oneCell'=true) :
  Calls Tryz.prog 178 #[.slice (some ⟨b,0,none⟩) n c,.int .i64 i,.slice (some ⟨vb,0,none⟩) 1 vc] w fun e w' =>
   e = .returned (.slice (some ⟨b,0,none⟩) (n+1) c)∧∃ (cur':Array Value) (w1:World),Keeps w w1∧w'=w1.setRow b cur'∧cur'.size=cur.size∧cur'.toList.take ((n+1) * 3)=cs.take (i * 3)++vs++cs.drop (i * 3):=by
 have t0:=Tryz.underlying0;have a0:=Tryz.isAgg0;have z0:=Tryz.sizeOf0;have v0:=Tryz.zeroValue0
 have t3:=Tryz.underlying3;have a3:=Tryz.isAgg3;have z3:=Tryz.sizeOf3;have v3:=Tryz.zeroValue3
 have t4:=Tryz.underlying4;have a4:=Tryz.isAgg4;have z4:=Tryz.sizeOf4;have v4:=Tryz.zeroValue4
 have t22:=Tryz.underlying25;have a22:=Tryz.isAgg25;have z22:=Tryz.sizeOf25;have v22:=Tryz.zeroValue25
 have t68:=Tryz.underlying106;have a68:=Tryz.isAgg106;have z68:=Tryz.sizeOf106;have v68:=Tryz.zeroValue106
 have u0:=run_underlying t0;have u3:=run_underlying t3;have u4:=run_underlying t4;have u22:=run_underlying t22;have u68:=run_underlying t68
 have mixed:=mixedOk
 have hz2:¬((i:Int)=(n:Int)):=by omega
 have hin:i≤n:=by omega
 have hw1:IntKind.i64.wrap ((i:Int)+1)=(i:Int)+1:=by rw [IntKind.wrap_i64];omega
 have hwn:IntKind.i64.wrap ((n:Int)+1)=(n:Int)+1:=by rw [IntKind.wrap_i64];omega
 have hb1:(0:Int)≤(i:Int)+1:=by omega
 have htn:((i:Int)+1).toNat=i+1:=by omega
 have hnn:((n:Int)+1).toNat=n+1:=by omega
 have hb2:¬(c=i+1):=by omega
 have hb3:(i:Int)≤(n:Int)+1:=by omega
 have hb4:¬(c=i):=by omega
 have hb5:¬((n:Int)+1>(c:Int)):=by omega
 have hshv:w.shape? vb=some (106,curv.size):=by simp [World.shape?,hcv]
 have hshb:w.shape? b=some (106,cur.size):=by simp [World.shape?,hcur]
 have hfr:∀ o,w.frozen? ⟨vb,o,none⟩=false:=fun o=>by simp [World.frozen?,hcv]
 have hcs0:cur.size≠0:=by omega
 have hov:∀ lb cb,(callFunc 221 #[.slice (some ⟨vb,0,none⟩) 1 vc,.slice (some ⟨b,(i+1) * 3,none⟩) lb cb]).run Tryz.prog w = .ok (.value (.bool false)) w:=fun lb cb=>by
  rw [run_callFunc_extern Tryz.func221 (by kernel_rfl) (by kernel_rfl) (by kernel_rfl) (e:=Extern.SlicesOverlaps.overlaps #[25,25] #[4]) (by kernel_rfl),
   Lib.run_overlaps_apart w 25 4 106 t22 3 z68 ⟨vb,0,none⟩ ⟨b,(i+1) * 3,none⟩ 1 vc lb cb hvb 106 106 curv.size cur.size hshv hshb hcs0 (hfr _) (hfr _)]
  rfl
 have hcl:cs.length=n * 3:=by rw [← hcs,List.length_take,Array.length_toList,hsz];exact Nat.min_eq_left (Nat.mul_le_mul_right _ (by omega))
 have hul:(cs.drop (i * 3)).length=(n - i) * 3:=by rw [List.length_drop,hcl,Nat.sub_mul]
 obtain ⟨cur1,hc1⟩:∃ cur1:Array Value,(cur.toList.take ((i+1) * 3)++cs.drop (i * 3)++cur.toList.drop ((i+1) * 3+(cs.drop (i * 3)).length)).toArray=cur1:=⟨_,rfl⟩
 have hil:=ins_list cur.toList vs (i * 3) (n * 3) 3 (Nat.mul_le_mul_right _ hin) (by rw [Array.length_toList,hsz];omega) hv6 cur1.toList (by rw [← hc1,hcs,Nat.add_mul,Nat.one_mul])
 obtain ⟨cur2,hc2⟩:∃ cur2:Array Value,(cur1.toList.take (i * 3)++vs++cur1.toList.drop (i * 3+vs.length)).toArray=cur2:=⟨_,rfl⟩
 have hl1:cur1.size=cur.size:=by have:=hil.2.2;simpa using this
 have hcp1:∀ ty dc sc,(Builtin.copy_ #[25,25] ty #[.slice (some ⟨b,(i+1) * 3,none⟩) (n - i) dc,.slice (some ⟨b,i * 3,none⟩) (n+1 - i) sc]).run Tryz.prog w.drew = .ok (goInt (n - i:Nat)) (w.drew.setRow b cur1):=fun ty dc sc=>by
  have:=run_copy_cellsK (P:=Tryz.prog) w.drew 25 25 ty 106 3 b ((i+1) * 3) (n - i) dc ⟨b,i * 3,none⟩ (n+1 - i) sc (n - i) (cs.drop (i * 3)) (cur:=cur) t22 z68 (Nat.min_eq_right (by omega)) hul
   (fun j v hj=>by
     rw [add_lit _ rfl,show w.drew.cell? ⟨b,i * 3+j,none⟩=w.cell? ⟨b,i * 3+j,none⟩ from rfl,cell_of_row w b _ cur _ _ hcur]
     rw [List.getElem?_drop,← hcs,List.getElem?_take] at hj
     split at hj
     ·simpa using hj
     ·cases hj) hcur (by rw [hul,hsz];omega) (fun v hv=>h1c v (List.mem_of_mem_drop hv))
  rw [hc1] at this
  exact this
 have hcp2:∀ (W:World),(∀ x:Nat,W.heap[x]? = (w.drew.setRow b cur1).heap[x]?)→∀ ty dc,(Builtin.copy_ #[25,25] ty #[.slice (some ⟨b,i * 3,none⟩) (n+1 - i) dc,.slice (some ⟨vb,0,none⟩) 1 vc]).run Tryz.prog W = .ok (goInt (1:Nat)) (W.setRow b cur2):=fun W hW ty dc=>by
  have:=run_copy_cellsK (P:=Tryz.prog) W 25 25 ty 106 3 b (i * 3) (n+1 - i) dc ⟨vb,0,none⟩ 1 vc 1 vs (cur:=cur1) (e:=106) t22 z68 (Nat.min_eq_left (by omega)) (by rw [hv6])
   (fun j v hj=>by
     rw [add_lit _ rfl,Nat.zero_add]
     have h1:W.cell? ⟨vb,j,none⟩=(w.drew.setRow b cur1).cell? ⟨vb,j,none⟩:=by simp only [World.cell?,hW]
     rw [h1,cell_setRow_other _ _ _ _ hvb,show w.drew.cell? ⟨vb,j,none⟩=w.cell? ⟨vb,j,none⟩ from rfl,cell_of_row w vb _ curv _ _ hcv]
     rw [← hvl,List.getElem?_take] at hj
     split at hj
     ·simpa using hj
     ·cases hj) (by rw [hW];exact setRow_heap _ _ _ _ _ _ hcur) (by rw [hv6,hl1,hsz];omega) h1v
  rw [hc2] at this
  exact this
 clear hc1 hul hcl
 go_enter Tryz.func178,Tryz.ntmps178
 go_wp2_with (simp only [hov])
 go_region_law_o (refine step_copy_runI rfl _ _ 25 25 rfl (.slice (some ⟨b,(i+1) * 3,none⟩) (n - i) (c - (i+1))) (.slice (some ⟨b,i * 3,none⟩) (n+1 - i) (c - i)) (by simp [Act.eval,Act.put]) (by simp [Act.eval,Act.put]) (hcp1 _ _ _) ?_)
 go_wp2_with (at_builtin;refine wpList_copy_runI _ rfl _ _ 25 25 rfl _ _ rfl rfl (hcp2 _ (fun _=>rfl) _ _) ?_)
 go_ret
 refine ⟨rfl,cur2,w.drew,Keeps.drew w,setRow_setRow _ _ _ _,?_,?_⟩
 ·have:=hil.2.1
  rw [← hc2]
  simpa using this
 ·rw [Nat.add_mul,Nat.one_mul,← hc2]
  have:=hil.1
  rw [hcs] at this
  exact this
set_option maxHeartbeats 4000000 in
theorem insVote_grow (b n c i vb vc:Nat) (cs vs:List Value) {cur curv:Array Value} (w:World) (hi:i<n) (hnc:n≤c) (hroom:c<n+1) (hbig:(n+1) * 8192≤140737488355328) (hvb:vb≠b)
  (hcur:w.heap[b]? = some (.cells cur 106 (0,0))) (hsz:cur.size=c * 3) (hcv:w.heap[vb]? = some (.cells curv 106 (0,0))) (hvl:curv.toList.take 3=vs) (hv6:vs.length=3)
  (hcs:cur.toList.take (n * 3)=cs) (h1c:∀ v∈cs,v.oneCell'=true) (h1v:∀ v∈vs,v.oneCell'=true) :
  Calls Tryz.prog 178 #[.slice (some ⟨b,0,none⟩) n c,.int .i64 i,.slice (some ⟨vb,0,none⟩) 1 vc] w fun e w' =>
   ∃ (cur':Array Value) (G:Nat),e = .returned (.slice (some ⟨w.heap.size,0,none⟩) (n+1) G)∧Keeps w w'∧w'.heap[w.heap.size]? = some (.cells cur' 106 (0,0))∧cur'.size=G * 3∧n+1≤G∧G≤maxLen∧cur'.toList.take ((n+1) * 3)=cs.take (i * 3)++vs++cs.drop (i * 3):=by
 have t0:=Tryz.underlying0;have a0:=Tryz.isAgg0;have z0:=Tryz.sizeOf0;have v0:=Tryz.zeroValue0
 have t3:=Tryz.underlying3;have a3:=Tryz.isAgg3;have z3:=Tryz.sizeOf3;have v3:=Tryz.zeroValue3
 have t4:=Tryz.underlying4;have a4:=Tryz.isAgg4;have z4:=Tryz.sizeOf4;have v4:=Tryz.zeroValue4
 have t22:=Tryz.underlying25;have a22:=Tryz.isAgg25;have z22:=Tryz.sizeOf25;have v22:=Tryz.zeroValue25
 have t68:=Tryz.underlying106;have a68:=Tryz.isAgg106;have z68:=Tryz.sizeOf106;have v68:=Tryz.zeroValue106
 have u0:=run_underlying t0;have u3:=run_underlying t3;have u4:=run_underlying t4;have u22:=run_underlying t22;have u68:=run_underlying t68
 have mixed:=mixedOk
 obtain ⟨ti,htt⟩:∃ ti,tt 106=some ti:=⟨_,rfl⟩
 have htb:ti.bytes≤8192:=by cases htt;decide
 have hti:ti.size=3:=by cases htt;rfl
 obtain ⟨_,info,k1,k2,k3,k4⟩:=ttOk 106 ti htt
 have hzc:=zOk 106 ti htt
 rw [hti] at hzc k3
 clear htt
 have hcl:cs.length=n * 3:=by rw [← hcs,List.length_take,Array.length_toList,hsz];exact Nat.min_eq_left (Nat.mul_le_mul_right _ (by omega))
 have hul:(cs.drop (i * 3)).length=(n - i) * 3:=by rw [List.length_drop,hcl,Nat.sub_mul]
 have hbw:b<w.heap.size:=(Array.getElem?_eq_some_iff.1 hcur).1
 have hvw:vb<w.heap.size:=(Array.getElem?_eq_some_iff.1 hcv).1
 have hold:(Builtin.firstCells info.size i (.slice (some ⟨b,0,none⟩) i c)).run Tryz.prog w.drew = .ok (cs.take (i * 3)).toArray w.drew :=
  run_firstCells_some w.drew info.size i ⟨b,0,none⟩ i c (cs.take (i * 3)) (by rw [List.length_take,hcl,k3];exact Nat.min_eq_left (Nat.mul_le_mul_right _ (by omega))) (fun j v hj=>by
   rw [add_lit _ rfl,Nat.zero_add,show w.drew.cell? ⟨b,j,none⟩=w.cell? ⟨b,j,none⟩ from rfl,cell_of_row w b _ cur _ _ hcur]
   rw [← hcs,List.getElem?_take] at hj
   split at hj
   ·rw [List.getElem?_take] at hj
    split at hj
    ·simpa using hj
    ·cases hj
   ·cases hj)
 have hby:(n+1) * info.bytes≤140737488355328:=Nat.le_trans (Nat.mul_le_mul_left _ (by rw [k4];exact htb)) hbig
 have hkk:(n:Int)+1 - (i:Int)=((n+1 - i:Nat):Int):=by omega
 have hik:i+(n+1 - i)=n+1:=by omega
 obtain ⟨G,hG⟩:∃ G,G=grownCap w (n+1) c 106:=⟨_,rfl⟩
 obtain ⟨ROW,hROW⟩:∃ ROW:Array Value,ROW=(cs.take (i * 3)).toArray++Builtin.zeroCells ti.zero.cells (n+1 - i)++Builtin.zeroCells ti.zero.cells (G - (n+1)):=⟨_,rfl⟩
 have hrz:∀ ty,(Builtin.append_ #[25,3] ty #[.slice (some ⟨b,0,none⟩) i c,.int .i64 ((n:Int)+1 - (i:Int))]).run Tryz.prog w =
   .ok (.slice (some ⟨w.heap.size,0,none⟩) (n+1) G) (w.drew.alloc (.cells ROW 106)):=fun ty=>by
  have h:=Lib.run_append_grow_zeros w 25 3 ty 106 info _ .i64 .i64 t22 t3 k1 k2 (some ⟨b,0,none⟩) i c (cs.take (i * 3)) hold (n+1 - i) (by omega) (by omega) (by omega) (by omega) (Nat.le_trans (Nat.mul_le_mul_right _ (by omega)) (Nat.le_trans hby (by decide))) (by rw [hik];exact growslice_fits hroom hby)
  rw [hik,← hG,← hROW] at h
  rw [hkk]
  exact h
 have hGn:n+1≤G:=by rw [hG];exact grownCap_ge w _ _ _
 have hGm:G≤maxLen:=by
  rw [hG]
  exact grownCap_le_maxLen w (n+1) c 106 (by unfold maxLen;omega)
 have hG63:G≤9223372036854775807:=by unfold maxLen at hGm;omega
 have hRs:ROW.size=G * 3:=by
  rw [hROW]
  simp only [Array.size_append,size_zeroCells,List.size_toArray,List.length_take,hcl,hzc]
  rw [Nat.min_eq_left (Nat.mul_le_mul_right _ (by omega:i≤n)),← Nat.add_mul,← Nat.add_mul]
  congr 1
  omega
 have hRt:ROW.toList.take (i * 3)=cs.take (i * 3):=by
  rw [hROW,Array.toList_append,Array.toList_append,List.append_assoc,List.take_append_of_le_length (by simp [hcl];omega),List.take_of_length_le (by simp;omega)]
 obtain ⟨R1,hR1⟩:∃ R1:Array Value,(ROW.toList.take (i * 3)++vs++ROW.toList.drop (i * 3+vs.length)).toArray=R1:=⟨_,rfl⟩
 obtain ⟨R2,hR2⟩:∃ R2:Array Value,(R1.toList.take ((i+1) * 3)++cs.drop (i * 3)++R1.toList.drop ((i+1) * 3+(cs.drop (i * 3)).length)).toArray=R2:=⟨_,rfl⟩
 have hil:=ins_list2 ROW.toList vs (cs.drop (i * 3)) _ (i * 3) (n * 3) 3 (Nat.mul_le_mul_right _ (by omega)) (by rw [Array.length_toList,hRs];omega) hv6 (by rw [hul,Nat.sub_mul]) hRt
 have hl1:R1.size=G * 3:=by rw [← hRs,← hR1];simpa using hil.2.2
 have e1:R1.toList=ROW.toList.take (i * 3)++vs++ROW.toList.drop (i * 3+vs.length):=by rw [← hR1]
 rw [← e1,show i * 3+3=(i+1) * 3 by omega] at hil
 have hl2:R2.size=G * 3:=by rw [← hRs,← hR2];simpa using hil.2.1
 have hr2:R2.toList.take ((n+1) * 3)=cs.take (i * 3)++vs++cs.drop (i * 3):=by
  rw [← hR2,show (n+1) * 3=n * 3+3 by omega]
  exact hil.1
 have hnew:(w.drew.alloc (.cells ROW 106)).heap[w.heap.size]? = some (.cells ROW 106 (0,0)):=heap_alloc_new w.drew _
 have hvbN:vb≠w.heap.size:=by omega
 have hbN:b≠w.heap.size:=by omega
 have hcpA:∀ (W:World),(∀ x:Nat,W.heap[x]? = (w.drew.alloc (.cells ROW 106)).heap[x]?)→∀ ty dc,(Builtin.copy_ #[25,25] ty #[.slice (some ⟨w.heap.size,i * 3,none⟩) (n+1 - i) dc,.slice (some ⟨vb,0,none⟩) 1 vc]).run Tryz.prog W = .ok (goInt (1:Nat)) (W.setRow w.heap.size R1):=fun W hW ty dc=>by
  have:=run_copy_cellsK (P:=Tryz.prog) W 25 25 ty 106 3 w.heap.size (i * 3) (n+1 - i) dc ⟨vb,0,none⟩ 1 vc 1 vs (cur:=ROW) (e:=106) t22 z68 (Nat.min_eq_left (by omega)) (by rw [hv6])
   (fun j v hj=>by
     rw [add_lit _ rfl,Nat.zero_add]
     have h1:W.cell? ⟨vb,j,none⟩=(w.drew.alloc (.cells ROW 106)).cell? ⟨vb,j,none⟩:=by simp only [World.cell?,hW]
     rw [h1]
     refine (Keeps.alloc w.drew _).cell ?_
     rw [show w.drew.cell? ⟨vb,j,none⟩=w.cell? ⟨vb,j,none⟩ from rfl,cell_of_row w vb _ curv _ _ hcv]
     rw [← hvl,List.getElem?_take] at hj
     split at hj
     ·simpa using hj
     ·cases hj) (by rw [hW];exact hnew) (by rw [hv6,hRs];omega) h1v
  rw [hR1] at this
  exact this
 have hcpB:∀ (W:World),(∀ x:Nat,W.heap[x]? = ((w.drew.alloc (.cells ROW 106)).setRow w.heap.size R1).heap[x]?)→∀ ty dc sc,(Builtin.copy_ #[25,25] ty #[.slice (some ⟨w.heap.size,(i+1) * 3,none⟩) (n - i) dc,.slice (some ⟨b,i * 3,none⟩) (n - i) sc]).run Tryz.prog W = .ok (goInt (n - i:Nat)) (W.setRow w.heap.size R2):=fun W hW ty dc sc=>by
  have:=run_copy_cellsK (P:=Tryz.prog) W 25 25 ty 106 3 w.heap.size ((i+1) * 3) (n - i) dc ⟨b,i * 3,none⟩ (n - i) sc (n - i) (cs.drop (i * 3)) (cur:=R1) (e:=106) t22 z68 (Nat.min_self _) hul
   (fun j v hj=>by
     rw [add_lit _ rfl]
     have h1:W.cell? ⟨b,i * 3+j,none⟩=((w.drew.alloc (.cells ROW 106)).setRow w.heap.size R1).cell? ⟨b,i * 3+j,none⟩:=by simp only [World.cell?,hW]
     rw [h1,cell_setRow_other _ _ _ _ hbN]
     refine (Keeps.alloc w.drew _).cell ?_
     rw [show w.drew.cell? ⟨b,i * 3+j,none⟩=w.cell? ⟨b,i * 3+j,none⟩ from rfl,cell_of_row w b _ cur _ _ hcur]
     rw [List.getElem?_drop,← hcs,List.getElem?_take] at hj
     split at hj
     ·simpa using hj
     ·cases hj) (by rw [hW];exact setRow_heap _ _ _ _ _ _ hnew) (by rw [hul,hl1];omega) (fun v hv=>h1c v (List.mem_of_mem_drop hv))
  rw [hR2] at this
  exact this
 have hw1:IntKind.i64.wrap ((i:Int)+1)=(i:Int)+1:=by rw [IntKind.wrap_i64];omega
 have hwn:IntKind.i64.wrap ((n:Int)+1)=(n:Int)+1:=by rw [IntKind.wrap_i64];omega
 have hws:IntKind.i64.wrap ((n:Int)+1 - i)=(n:Int)+1 - i:=by rw [IntKind.wrap_i64];omega
 have hb1:(0:Int)≤(i:Int)+1:=by omega
 have htn:((i:Int)+1).toNat=i+1:=by omega
 have hz2:¬((i:Int)=(n:Int)):=by omega
 have hin:i≤n:=by omega
 have hb3:(i:Int)≤(n:Int):=by omega
 have hb5:(c:Int)<(n:Int)+1:=by omega
 have hGi:¬(G=i):=by omega
 have hGim:¬(G=i+1):=by omega
 have hci:¬(c=i):=by omega
 clear hkk hik hold hROW hG hRt hRs hR1 hR2 hil hl1 e1
 have hcpA':∀ dc,(Builtin.copy_ #[25,25] 3 #[.slice (some ⟨w.heap.size,i * 3,none⟩) (n+1 - i) dc,.slice (some ⟨vb,0,none⟩) 1 vc]).run Tryz.prog (w.alloc (.cells ROW 106)).drew = .ok (goInt (1:Nat)) ((w.alloc (.cells ROW 106)).drew.setRow w.heap.size R1):=fun dc=>hcpA _ (fun _=>rfl) _ _
 have hcpB':=hcpB ((w.alloc (.cells ROW 106)).drew.setRow w.heap.size R1).drew (fun _=>rfl) 3 (G - (i+1)) (c - i)
 go_enter Tryz.func178,Tryz.ntmps178
 go_wp2_with (first
  | (at_builtin;refine Lib.wpList_append_run _ rfl _ _ _ _ rfl _ _ rfl rfl _ _ (hrz _) ?_)
  | simp only [hcpA'])
 go_region_law_o (refine step_copy_runI rfl _ _ 25 25 rfl (.slice (some ⟨w.heap.size,(i+1) * 3,none⟩) (n - i) (G - (i+1))) (.slice (some ⟨b,i * 3,none⟩) (n - i) (c - i)) (by simp [Act.eval,Act.put]) (by simp [Act.eval,Act.put]) hcpB' ?_)
 go_wp2
 go_ret
 exact ⟨R2,G,rfl,(((Keeps.alloc w _).trans (Keeps.drew _)).setNew _ (Nat.le_refl _) _).trans (Keeps.drew _) |>.setNew _ (Nat.le_refl _) _,setRow_heap _ _ _ _ _ _ (setRow_heap _ _ _ _ _ _ hnew),hl2,hGn,hGm,hr2⟩
theorem insertVote_in (l:List (List DV)) (x:List DV) (i:Nat) (hi:i<l.length) (hl:l.length≤4294967296):ACalls Tryz.prog 178 [.arr 0,.d (.int .i64 i),.arr 1] [.row 106 3 l false,.row 106 3 [x] false] (fun av L=>av = .arr 2∧L=[.dead,.row 106 3 [x] false,.row 106 3 (l.take i++x :: l.drop i) false]):=by
 intro c vs hc hL0 hs hv
 simp only [VRt,VR,VD] at hv
 obtain ⟨u0,r0,hvs,⟨ab0,hab0,har0⟩,u1,r1,rfl,hu1,u2,r2,rfl,⟨ab2,hab2,har2⟩,rfl⟩:=hv
 simp only [List.getElem?_cons_zero,List.getElem?_cons_succ,Option.some.injEq] at hab0 hab2
 subst hab0;subst hab2;subst hu1
 have hvs':vs = #[u0,.int .i64 i,u2]:=by rw [← Array.toArray_toList (xs:=vs),hvs]
 rw [hvs']
 have hb0:=hs.blk 0 _ rfl
 have hb1:=hs.blk 1 _ rfl
 obtain ⟨_,hxl,hb1⟩:=hb1
 obtain ⟨_,hll,hb0⟩:=hb0
 have hx6:x.length=3:=hxl x (by simp)
 cases hE1:c.E0 1 with
 | none=>rw [hE1] at hb1;cases hb1
 | some vb =>
 cases hE:c.E0 0 with
 | none =>
   rw [hE] at hb0
   have hb0:l=[]:=hb0
   subst hb0
   simp at hi
 | some b =>
 rw [hE] at hb0
 rw [hE1] at hb1
 simp only [arRel,hE,hE1] at har0 har2
 obtain ⟨cap,cur,rfl,hh,hsz⟩:=har0
 obtain ⟨vc,curv,rfl,hhv,hszv⟩:=har2
 obtain ⟨cap',cur',hh',hsz',hcap,hmax,hvd⟩:=hb0
 rw [hh] at hh';cases hh'
 obtain rfl:cap=cap':=by omega
 obtain ⟨vc',curv',hhv',hszv',hvcap,_,hvdv⟩:=hb1
 rw [hhv] at hhv';cases hhv'
 have hne:vb≠b:=by
  rintro rfl
  have:=hs.inj 1 0 _ _ _ rfl rfl rfl rfl hE1 hE
  cases this
 simp only [List.length_cons,List.length_nil,Nat.zero_add,Nat.one_mul,List.flatten_cons,List.flatten_nil,List.append_nil] at hvdv hvcap ⊢
 have h1c:=Cs_one hvd
 have h1v:=Cs_one hvdv
 have hv6:(curv.toList.take 3).length=3:=by rw [Cs_length hvdv,hx6]
 have hzl:(l.take i++x :: l.drop i).length=l.length+1:=by simp;omega
 have hzn:∀ cs∈l.take i++x :: l.drop i,cs.length=3:=by
  intro cs hcs
  rcases List.mem_append.1 hcs with h|h
  ·exact hll cs (List.mem_of_mem_take h)
  ·rcases List.mem_cons.1 h with rfl|h
   ·exact hx6
   ·exact hll cs (List.mem_of_mem_drop h)
 have hnew:VDs (rcOf c.M0 c.E0 [AB.row 106 3 l false,AB.row 106 3 [x] false] c.w0).rd (l.take i++x :: l.drop i).flatten ((cur.toList.take (l.length * 3)).take (i * 3)++curv.toList.take 3++(cur.toList.take (l.length * 3)).drop (i * 3)):=by
  rw [List.flatten_append,List.flatten_cons,flatten_takeN l hll,flatten_dropN l hll,← List.append_assoc]
  exact Cs_append (Cs_append (Cs_take _ hvd) hvdv) (Cs_drop _ hvd)
 by_cases hroom:l.length+1≤cap
 ·refine (insVote_shift b l.length cap i vb vc _ _ c.w0 hi hroom (by unfold maxLen at hmax;omega) hne hh hsz hhv rfl hv6 rfl h1c h1v).mono ?_
  rintro e w' ⟨rfl,cur2,w1,kk,rfl,hs2,ht2⟩
  have hblt:=hs.lt (i:=0) rfl rfl hE
  obtain ⟨hs3,hle3⟩:=(hs.keeps hc kk).turn (i:=0) (zs:=l.take i++x :: l.drop i) rfl hE (cur':=cur2) (by rw [kk.block b hblt];exact hh) hs2 (by rw [hzl,hsz];exact Nat.mul_le_mul_right _ hroom) hzn (by
   rw [hzl,ht2]
   exact VDs.mono (le_keeps hs.bl kk).rd hnew)
  refine ⟨_,.arr 2,_,_,rfl,⟨rfl,rfl⟩,hs3,?_⟩
  simp only [VR]
  refine ⟨_,rfl,?_⟩
  simp only [arRel,Eupd]
  exact ⟨cap,cur2,by rw [hzl],setRow_heap _ _ _ _ _ _ (by rw [kk.block b hblt];exact hh),by rw [hs2];exact hsz⟩
 ·refine (insVote_grow b l.length cap i vb vc _ _ c.w0 hi hcap (by omega) (by omega) hne hh hsz hhv rfl hv6 rfl h1c h1v).mono ?_
  rintro e w' ⟨cur2,G,rfl,kk,hh2,hs2,hG1,hG2,ht2⟩
  obtain ⟨hk,hkle⟩:=hs.kill (i:=0) rfl
  obtain ⟨hs3,hle3⟩:=hk.newRow hc kk (e:=106) (xs:=l.take i++x :: l.drop i) false (by exact ⟨by decide,rfl⟩) hzn hh2 hs2 (by rw [hzl];exact hG1) hG2 (by
   rw [hzl,ht2]
   exact VDs.mono hkle.rd hnew)
  refine ⟨_,.arr 2,_,_,rfl,⟨rfl,rfl⟩,hs3,?_⟩
  simp only [VR]
  refine ⟨_,rfl,?_⟩
  simp only [arRel,Eupd]
  exact ⟨G,cur2,by rw [hzl],hh2,hs2⟩
theorem insertVote_end (l:List (List DV)) (hll:∀ cs∈l,cs.length=3) (x:List DV) (hx:x.length=3) (hl:l.length≤4294967296):ACalls Tryz.prog 178 [.arr 0,.d (.int .i64 l.length),.arr 1] [.row 106 3 l false,.row 106 3 [x] false] (fun av L=>av = .arr 2∧L=[.dead,.row 106 3 [x] false,.row 106 3 (l++[x]) false]):=by
 intro c vs hc hL0 hs hv
 have hv0:=hv
 simp only [VRt,VR,VD] at hv
 obtain ⟨u0,r0,hvs,⟨ab0,hab0,har0⟩,u1,r1,rfl,hu1,u2,r2,rfl,⟨ab2,hab2,har2⟩,rfl⟩:=hv
 have hq:appendK tt 25 [AB.row 106 3 l false,AB.row 106 3 [x] false] (.arr 0) (.arr 1) (fun av L=>av = .arr 2∧L=[.dead,.row 106 3 [x] false,.row 106 3 (l++[x]) false]):=by
  conv=>whnf
  refine ⟨by simp;omega,?_⟩
  conv=>whnf
  exact ⟨rfl,rfl⟩
 have hv1:VR (rcOf c.M0 c.E0 [AB.row 106 3 l false,AB.row 106 3 [x] false] c.w0) (.arr 0) u0:=⟨ab0,hab0,har0⟩
 have hv2:VR (rcOf c.M0 c.E0 [AB.row 106 3 l false,AB.row 106 3 [x] false] c.w0) (.arr 1) u2:=⟨ab2,hab2,har2⟩
 have hr:=fun ty=>appendK_run ttOk zOk hc hs hq ty hv1 hv2
 simp only [List.getElem?_cons_zero,List.getElem?_cons_succ,Option.some.injEq] at hab0 hab2
 subst hab0;subst hab2;subst hu1
 have hvs':vs = #[u0,.int .i64 l.length,u2]:=by rw [← Array.toArray_toList (xs:=vs),hvs]
 rw [hvs']
 have hb0:=hs.blk 0 _ rfl
 have hb1:=hs.blk 1 _ rfl
 obtain ⟨_,hxl,hb1⟩:=hb1
 obtain ⟨_,hll,hb0⟩:=hb0
 cases hE1:c.E0 1 with
 | none=>rw [hE1] at hb1;cases hb1
 | some vb =>
 simp only [arRel,hE1] at har2
 obtain ⟨vc,curv,rfl,hhv,hszv⟩:=har2
 obtain ⟨r,w',E',av,L',hrun,⟨rfl,rfl⟩,hsim,hle,hvr⟩:=hr 25
 simp only [List.length_cons,List.length_nil,Nat.zero_add] at hrun ⊢
 have t0:=Tryz.underlying0;have a0:=Tryz.isAgg0;have z0:=Tryz.sizeOf0;have v0:=Tryz.zeroValue0
 have t3:=Tryz.underlying3;have a3:=Tryz.isAgg3;have z3:=Tryz.sizeOf3;have v3:=Tryz.zeroValue3
 have t4:=Tryz.underlying4;have a4:=Tryz.isAgg4;have z4:=Tryz.sizeOf4;have v4:=Tryz.zeroValue4
 have t22:=Tryz.underlying25;have a22:=Tryz.isAgg25;have z22:=Tryz.sizeOf25;have v22:=Tryz.zeroValue25
 have t68:=Tryz.underlying106;have a68:=Tryz.isAgg106;have z68:=Tryz.sizeOf106;have v68:=Tryz.zeroValue106
 have u0:=run_underlying t0;have u3:=run_underlying t3;have u4:=run_underlying t4;have u22:=run_underlying t22;have u68:=run_underlying t68
 have mixed:=mixedOk
 cases hE:c.E0 0 with
 | none =>
   rw [hE] at hb0
   have hb0:l=[]:=hb0
   subst hb0
   simp only [arRel,hE] at har0
   subst har0
   refine Calls.mono (R:=fun e w2=>e = .returned r∧w2=w') ?_ (by rintro _ _ ⟨rfl,rfl⟩;exact ⟨_,.arr 2,_,_,rfl,⟨rfl,rfl⟩,hsim,hvr⟩)
   go_enter Tryz.func178,Tryz.ntmps178
   go_wp2_with (at_builtin;refine Lib.wpList_append_run _ rfl _ _ _ _ rfl _ _ rfl rfl _ _ hrun ?_)
   go_ret
   exact ⟨rfl,rfl⟩
 | some b =>
   rw [hE] at hb0
   simp only [arRel,hE] at har0
   obtain ⟨cap,cur,rfl,hh,hsz⟩:=har0
   obtain ⟨cap',cur',hh',hsz',hcap,hmax,hvd⟩:=hb0
   rw [hh] at hh';cases hh'
   obtain rfl:cap=cap':=by omega
   have hc63:cap≤9223372036854775807:=by unfold maxLen at hmax;omega
   refine Calls.mono (R:=fun e w2=>e = .returned r∧w2=w') ?_ (by rintro _ _ ⟨rfl,rfl⟩;exact ⟨_,.arr 2,_,_,rfl,⟨rfl,rfl⟩,hsim,hvr⟩)
   clear hsz hsz' hvr hsim hle
   obtain ⟨n,hn⟩:∃ n,l.length=n:=⟨_,rfl⟩
   rw [hn] at hrun hcap ⊢
   go_enter Tryz.func178,Tryz.ntmps178
   go_wp2_with (at_builtin;refine Lib.wpList_append_run _ rfl _ _ _ _ rfl _ _ rfl rfl _ _ hrun ?_)
   all_goals (go_ret;exact ⟨rfl,rfl⟩)
end Go.Proofs.YtolkmjfkkkiboaaGreat
namespace Go.Proofs.YtolkmjfkkkiboaaGreat
open Go.Ab Go.RowKit Go.MapKept
attribute [local irreducible] ACalls AW ADraw Into fltB fnear
set_option maxRecDepth 100000
def Vote.av (v:Vote):AV := .agg (v.cs.map AV.d)
theorem voteOf_ok (v:Vote):ACalls Tryz.prog 129 [v.av] [] (fun av L=>av = .d (plb v.round v.author)∧L=[]):=by
 (refine acalls_go ttOk zOk foOk Tryz.func129 rfl Tryz.ntmps129 rfl false rfl ?_);(conv=>whnf)
 refine rdw ?_;repeat' ((with_reducible apply tw)<;>intro _)
 refine (placeOf_ok v.round v.author).mono ?_
 rintro _ _ ⟨rfl,rfl⟩
 conv=>whnf
 exact ⟨rfl,rfl⟩
theorem bsearchV_nil (p:DV):ACalls Tryz.prog 219 [.d (.sl 3 []),.d p,.fn 220 []] [] (fun av L=>av = .tup [.d (.int .i64 0),.d (.bool false)]∧L=[]):=by
 (refine acalls_go ttOk zOk foOk Tryz.func219 rfl Tryz.ntmps219 rfl false rfl ?_);(conv=>whnf)
 refine loop_go ttOk zOk foOk (σ:=Unit) (fun _=>([(0,.d (.sl 3 [])),(8,.d (.int .i64 0)),(9,.d (.int .i64 0)),(10,.d (.int .i64 0))],[])) (fun _=>True) (fun _=>0) [0,8,9,10] ?_ ?_
 ·conv=>whnf
  exact ⟨(),rfl,rfl,trivial⟩
 ·rintro _ -
  conv=>whnf
  refine rdw ?_;repeat' ((with_reducible apply tw)<;>intro _)
  exact ⟨rfl,rfl⟩
theorem findV_nil (r a:Int):ACalls Tryz.prog 177 [.d (.sl 3 []),.d (plb r a)] [] (fun av L=>av = .tup [.d (.int .i64 0),.d (.bool false)]∧L=[]):=by
 have h:=bsearchV_nil (plb r a)
 (refine acalls_go ttOk zOk foOk Tryz.func177 rfl Tryz.ntmps177 rfl false rfl ?_);(conv=>whnf)
 refine h.mono ?_
 rintro _ _ ⟨rfl,rfl⟩
 conv=>whnf
 exact ⟨rfl,rfl⟩
theorem insertV_nil (v:Vote):ACalls Tryz.prog 178 [.arr 0,.d (.int .i64 0),.d (.sl 3 (votesD [v]))] [.row 106 3 [] false] (fun av L=>av = .d (.sl 3 (votesD [v]))∧L=[.dead]):=by
 (refine acalls_go ttOk zOk foOk Tryz.func178 rfl Tryz.ntmps178 rfl false rfl ?_);(conv=>whnf)
 refine rdw ?_;repeat' ((with_reducible apply tw)<;>intro _)
 refine Or.inl ?_
 conv=>whnf
 refine ⟨by decide,by decide,by decide,?_⟩
 conv=>whnf
 refine rdw ?_;repeat' ((with_reducible apply tw)<;>intro _)
 refine ⟨by show (0+1) * 24≤140737488355328;decide,?_⟩
 conv=>whnf
 refine rdw ?_;repeat' ((with_reducible apply tw)<;>intro _)
 exact ⟨rfl,rfl⟩
theorem votePut_nil (v:Vote):ACalls Tryz.prog 142 [.d (.sl 3 []),v.av] [] (fun av L=>av = .tup [.d (.sl 3 (votesD [v])),.d (.int .i64 0)]∧L=[]):=by
 have h1:=voteOf_ok v
 have h2:=findV_nil v.round v.author
 have h3:=cloneV_row [] (by simp)
 have h4:=insertV_nil v
 (refine acalls_go ttOk zOk foOk Tryz.func142 rfl Tryz.ntmps142 rfl false rfl ?_);(conv=>whnf)
 refine rdw ?_;repeat' ((with_reducible apply tw)<;>intro _)
 refine ACalls.mono (post:=fun av L=>av = .d (plb v.round v.author)∧L=[]) h1 ?_
 rintro _ _ ⟨rfl,rfl⟩
 conv=>whnf
 refine rdw ?_;repeat' ((with_reducible apply tw)<;>intro _)
 refine h2.mono ?_
 rintro _ _ ⟨rfl,rfl⟩
 conv=>whnf
 refine rdw ?_;repeat' ((with_reducible apply tw)<;>intro _)
 ((with_reducible refine draw_pl ttOk zOk foOk mixedOk pl142x2 ?_ ?_);(focus kernel_rfl);(conv=>whnf))
 refine rdw ?_;repeat' ((with_reducible apply tw)<;>intro _)
 ((with_reducible refine draw_pl ttOk zOk foOk mixedOk pl142x8 ?_ ?_);(focus kernel_rfl);(conv=>whnf))
 refine rdw ?_;repeat' ((with_reducible apply tw)<;>intro _)
 refine h3.mono ?_
 rintro _ _ ⟨rfl,rfl⟩
 conv=>whnf
 refine rdw ?_;repeat' ((with_reducible apply tw)<;>intro _)
 (refine Or.inr ?_;(conv=>whnf))
 refine h4.mono ?_
 rintro _ _ ⟨rfl,rfl⟩
 conv=>whnf
 refine rdw ?_;repeat' ((with_reducible apply tw)<;>intro _)
 exact ⟨rfl,rfl⟩
theorem votesD_at {l:List Vote} {k:Nat} {c:Vote} (h:l[k]? = some c):(votesD l)[k]? = some c.cs:=by simp [votesD,h]
def cmpV (c:Vote) (r a:Int):Int:=if cmpI c.round r≠0 then cmpI c.round r else cmpI c.author a
theorem findfV_ok (c:Vote) (r a:Int) (h1:isF c.round) (h2:isF c.author) (hr:isF r) (ha:isF a):ACalls Tryz.prog 220 [c.av,.d (plb r a)] [] (fun av L=>av = .d (.int .i64 (cmpV c r a))∧L=[]):=by
 (refine acalls_go ttOk zOk foOk Tryz.func220 rfl Tryz.ntmps220 rfl false rfl ?_);(conv=>whnf)
 (refine (voteOf_ok c).mono ?_;rintro _ _ ⟨rfl,rfl⟩;(conv=>whnf))
 refine rdw ?_;repeat' ((with_reducible apply tw)<;>intro _)
 ((with_reducible refine (compare_ok h1 hr).mono ?_);rintro _ _ ⟨rfl,rfl⟩;(conv=>whnf))
 refine rdw ?_;repeat' ((with_reducible apply tw)<;>intro _)
 ((with_reducible refine (compare_ok h2 ha).mono ?_);rintro _ _ ⟨rfl,rfl⟩;(conv=>whnf))
 refine rdw ?_;repeat' ((with_reducible apply tw)<;>intro _)
 (refine Or.inl ?_;(conv=>whnf))
 ((with_reducible refine (or_ok (cmpI c.round r) (cmpI c.author a)).mono ?_);rintro _ _ ⟨rfl,rfl⟩;(conv=>whnf))
 exact ⟨rfl,rfl⟩
def Vote.before (c:Vote) (r a:Int):Bool:=decide (c.round<r∨c.round=r∧c.author<a)
def posV (l:List Vote) (r a:Int):Nat:=(l.filter fun c=>c.before r a).length
def sortedV (l:List Vote):Prop:=l.Pairwise fun x y=>x.before y.round y.author=true
def fitV (l:List Vote):Prop:=∀ c∈l,isF c.round∧isF c.author
def atV (l:List Vote) (r a:Int):Option Vote:=l.find? fun c=>decide (c.round=r∧c.author=a)
theorem beforeV_iff {c:Vote} {r a:Int}:c.before r a=true↔c.round<r∨c.round=r∧c.author<a:=by simp [Vote.before]
theorem posV_le (l:List Vote) (r a:Int):posV l r a≤l.length:=List.length_filter_le ..
theorem posV_iff {r a:Int}:∀ {l:List Vote} {m:Nat} {c:Vote},sortedV l→l[m]? = some c→(c.before r a=true↔m<posV l r a)
 | [],m,c,_,h=>by simp at h
 | x :: t,m,c,hs,h=>by
   have hs':=List.pairwise_cons.1 hs
   cases hx:x.before r a with
   | true =>
     have hp:posV (x :: t) r a=posV t r a+1:=by simp [posV,hx]
     cases m with
     | zero =>
       simp only [List.getElem?_cons_zero,Option.some.injEq] at h
       subst h
       rw [hp];simp [hx]
     | succ m =>
       rw [List.getElem?_cons_succ] at h
       rw [posV_iff hs'.2 h,hp];omega
   | false =>
     have hall:∀ y∈t,y.before r a=false:=by
      intro y hy
      have h1:=beforeV_iff.1 (hs'.1 y hy)
      cases hb:y.before r a with
      | false=>rfl
      | true =>
        have h2:=beforeV_iff.1 hb
        have:x.before r a=true:=beforeV_iff.2 (by omega)
        rw [hx] at this;cases this
     have hp:posV (x :: t) r a=0:=by
      unfold posV
      rw [List.filter_eq_nil_iff.2]
      ·rfl
      ·intro y hy
       rcases List.mem_cons.1 hy with rfl|hy
       ·simp [hx]
       ·simp [hall y hy]
     have hc:c.before r a=false:=by
      cases m with
      | zero =>
        simp only [List.getElem?_cons_zero,Option.some.injEq] at h
        subst h;exact hx
      | succ m =>
        rw [List.getElem?_cons_succ] at h
        exact hall c (List.mem_of_getElem? h)
     rw [hp,hc];simp
theorem atV_pos {l:List Vote} {r a:Int} (hs:sortedV l):atV l r a=(l[posV l r a]?).filter fun c=>decide (c.round=r∧c.author=a):=by
 obtain ⟨k,hk⟩:∃ k,posV l r a=k:=⟨_,rfl⟩
 cases hc:atV l r a with
 | none =>
   unfold atV at hc
   rw [List.find?_eq_none] at hc
   cases hg:l[posV l r a]? with
   | none=>rfl
   | some c =>
     have:=hc c (List.mem_of_getElem? hg)
     simp only [Option.filter,this]
     rfl
 | some c =>
   have hc1:decide (c.round=r∧c.author=a)=true:=by
    have:=List.find?_some hc;simpa using this
   have hcm:c∈l:=List.mem_of_find?_eq_some hc
   obtain ⟨m,hm⟩:=List.getElem?_of_mem hcm
   have hc2:=of_decide_eq_true hc1
   have hnb:¬m<posV l r a:=fun h=>by
    have:=beforeV_iff.1 ((posV_iff hs hm).2 h)
    omega
   have heq:m=posV l r a:=by
    rcases Nat.lt_or_ge (posV l r a) m with h|h
    ·exfalso
     have hlt:m<l.length:=by
      rcases Nat.lt_or_ge m l.length with h2|h2
      ·exact h2
      ·rw [List.getElem?_eq_none h2] at hm;cases hm
     obtain ⟨x,hx⟩:∃ x,l[posV l r a]? = some x:=⟨_,List.getElem?_eq_getElem (by omega)⟩
     have hb:x.before c.round c.author=true:=by
      have:=List.pairwise_iff_getElem.1 hs (posV l r a) m (by omega) hlt h
      rw [List.getElem?_eq_getElem (by omega)] at hx hm
      cases hx;cases hm;exact this
     rw [hc2.1,hc2.2] at hb
     have:=(posV_iff hs hx).1 hb
     omega
    ·omega
   rw [← heq,hm]
   simp only [Option.filter,hc1]
   rfl
theorem cmpV_neg {c:Vote} {r a:Int}:cmpV c r a<0↔c.before r a=true:=by
 rw [beforeV_iff]
 unfold cmpV cmpI
 split<;>split<;>(try split)<;>(try split)<;>omega
theorem cmpV_zero {c:Vote} {r a:Int}:cmpV c r a=0↔c.round=r∧c.author=a:=by
 unfold cmpV cmpI
 split<;>split<;>(try split)<;>(try split)<;>omega
set_option maxHeartbeats 4000000 in
theorem bsearchV_ok (l:List Vote) (r a:Int) (hl:few l) (hs:sortedV l) (hf:fitV l) (hr:isF r) (ha:isF a):ACalls Tryz.prog 219 [.d (.sl 3 (votesD l)),.d (plb r a),.fn 220 []] [] (fun av L=>av = .tup [.d (.int .i64 (posV l r a)),.d (.bool (atV l r a).isSome)]∧L=[]):=by
 have hcl:=votesD_length l
 unfold few at hl
 (refine acalls_go ttOk zOk foOk Tryz.func219 rfl Tryz.ntmps219 rfl false rfl ?_);(conv=>whnf)
 refine loop_go ttOk zOk foOk (σ:=Nat×Nat) (fun s=>([(0,.d (.sl 3 (votesD l))),(1,.d (plb r a)),(2,.fn 220 []),(8,.d (.int .i64 l.length)),(9,.d (.int .i64 s.1)),(10,.d (.int .i64 s.2))],[])) (fun s=>s.1≤posV l r a∧posV l r a≤s.2∧s.2≤l.length) (fun s=>s.2 - s.1) [0,1,2,8,9,10] ?_ ?_
 ·conv=>whnf
  exact ⟨(0,l.length),by rw [hcl];rfl,rfl,Nat.zero_le _,posV_le l r a,Nat.le_refl _⟩
 ·rintro ⟨i,j⟩ ⟨h1,h2,h3⟩
  simp only at h1 h2 h3
  conv=>whnf
  refine rdw ?_;repeat' ((with_reducible apply tw)<;>intro _)
  ·rename_i hij
   intro z hz
   conv=>whnf
   refine ⟨by decide,?_⟩
   intro z1 hz1
   conv=>whnf
   intro z2 hz2
   have hh:=half (by omega) (by omega) hz hz1 hz2
   subst hh
   clear hz hz1 hz2
   obtain ⟨h,hh⟩:∃ h,(i+j) / 2=h:=⟨_,rfl⟩
   rw [hh]
   obtain ⟨c,hc⟩:∃ c,l[h]? = some c:=⟨_,List.getElem?_eq_getElem (by omega)⟩
   obtain ⟨f1,f2⟩:=hf c (List.mem_of_getElem? hc)
   conv=>whnf
   refine ⟨by omega,c.cs,votesD_at hc,?_⟩
   conv=>whnf
   refine rdw ?_;repeat' ((with_reducible apply tw)<;>intro _)
   refine (findfV_ok c r a f1 f2 hr ha).mono ?_
   rintro _ _ ⟨rfl,rfl⟩
   have hp:=posV_iff (r:=r) (a:=a) hs hc
   rw [← cmpV_neg] at hp
   conv=>whnf
   refine rdw ?_;repeat' ((with_reducible apply tw)<;>intro _)
   ·rename_i hn
    exact ⟨(h+1,j),rfl,rfl,⟨by have:=hp.1 hn;show h+1≤_;omega,h2,h3⟩,by show j - (h+1)<j - i;omega⟩
   ·rename_i hn
    exact ⟨(i,h),rfl,rfl,⟨h1,by show _≤h;rcases Nat.lt_or_ge h (posV l r a) with h4|h4;exact absurd (hp.2 h4) hn;exact h4,by show h≤_;omega⟩,by show h - i<j - i;omega⟩
  ·rename_i hij hlt
   replace hij:¬(i:Int)<j:=hij
   replace hlt:(i:Int)<l.length:=hlt
   obtain rfl:i=posV l r a:=by omega
   obtain ⟨c,hc⟩:∃ c,l[posV l r a]? = some c:=⟨_,List.getElem?_eq_getElem (by omega)⟩
   obtain ⟨f1,f2⟩:=hf c (List.mem_of_getElem? hc)
   rw [atV_pos hs]
   refine ⟨by omega,c.cs,votesD_at hc,?_⟩
   conv=>whnf
   refine rdw ?_;repeat' ((with_reducible apply tw)<;>intro _)
   refine (findfV_ok c r a f1 f2 hr ha).mono ?_
   rintro _ _ ⟨rfl,rfl⟩
   conv=>whnf
   refine ⟨?_,rfl⟩
   have e:(Option.filter (fun c:Vote=>decide (c.round=r∧c.author=a)) l[posV l r a]?).isSome=(cmpV c r a == 0):=by
    rw [hc,Bool.eq_iff_iff,beq_iff_eq,cmpV_zero]
    by_cases hd:c.round=r∧c.author=a<;>simp [Option.filter,hd]
   rw [e]
  ·rename_i hij hlt
   replace hij:¬(i:Int)<j:=hij
   replace hlt:¬(i:Int)<l.length:=hlt
   obtain rfl:i=posV l r a:=by omega
   rw [atV_pos hs,List.getElem?_eq_none (by omega)]
   exact ⟨rfl,rfl⟩
theorem findV_ok (l:List Vote) (r a:Int) (hl:few l) (hs:sortedV l) (hf:fitV l) (hr:isF r) (ha:isF a):ACalls Tryz.prog 177 [.d (.sl 3 (votesD l)),.d (plb r a)] [] (fun av L=>av = .tup [.d (.int .i64 (posV l r a)),.d (.bool (atV l r a).isSome)]∧L=[]):=by
 (refine acalls_go ttOk zOk foOk Tryz.func177 rfl Tryz.ntmps177 rfl false rfl ?_);(conv=>whnf)
 (refine (bsearchV_ok l r a hl hs hf hr ha).mono ?_;rintro _ _ ⟨rfl,rfl⟩;(conv=>whnf))
 exact ⟨rfl,rfl⟩
def giveE (l:List Vote) (v:Vote):Int:=match atV l v.round v.author with
 | some y=>if y.digest=v.digest then 4 else 5
 | none=>if l.length=65536 then 8 else 0
def insV (l:List Vote) (v:Vote):List Vote:=l.take (posV l v.round v.author)++v :: l.drop (posV l v.round v.author)
def putV (l:List Vote) (v:Vote):List Vote:=if giveE l v=0 then insV l v else l
structure okVote (v:Vote):Prop where
 round:1≤v.round∧v.round≤1099511627776
 author:1≤v.author∧v.author≤16
 digest:1≤v.digest∧v.digest≤65536
structure okVotes (l:List Vote):Prop where
 len:l.length≤65536
 votes:∀ v∈l,okVote v
 sorted:sortedV l
theorem okVote.fit {v:Vote} (h:okVote v):isF v.round∧isF v.author:=by
 have h1:=h.round
 have h2:=h.author
 exact ⟨⟨by omega,by omega⟩,⟨by omega,by omega⟩⟩
theorem okVotes.fit {l:List Vote} (h:okVotes l):fitV l:=fun v hv=>(h.votes v hv).fit
theorem okVotes.few {l:List Vote} (h:okVotes l):few l:=by have:=h.len;unfold Go.Proofs.YtolkmjfkkkiboaaGreat.few;omega
theorem insV_cs (l:List Vote) (c:Vote) (i:Nat):(votesD l).take i++c.cs :: (votesD l).drop i=votesD (l.take i++c :: l.drop i):=by simp [votesD]
theorem insertV_ok (l:List Vote) (c:Vote) (i:Nat) (hi:i≤l.length) (hl:l.length≤4294967296):ACalls Tryz.prog 178 [.arr 0,.d (.int .i64 i),.arr 1] [.row 106 3 (votesD l) false,.row 106 3 [c.cs] false] (fun av L=>av = .arr 2∧L=[.dead,.row 106 3 [c.cs] false,.row 106 3 (votesD (l.take i++c :: l.drop i)) false]):=by
 have hcl:=votesD_length l
 rcases Nat.lt_or_eq_of_le hi with h|h
 ·have:=insertVote_in (votesD l) c.cs i (by omega) (by omega)
  rw [insV_cs] at this
  exact this
 ·subst h
  have:=insertVote_end (votesD l) (fun cs hcs=>by obtain ⟨c,_,rfl⟩:=List.mem_map.1 hcs;rfl) c.cs rfl (by omega)
  rw [hcl] at this
  rw [List.take_length,List.drop_length]
  simpa [votesD] using this
def plPut8:Plan:=⟨[[],[0],[],[],[3],[3,4,2,0,1],[1,0,2,4,3,5],[5,3,4,2,0,1,6]],[0,2,3],[(1,[]),(4,[]),(5,[6,7])]⟩
def plPut8b:Plan:=⟨[[],[0],[],[],[3],[3,4,2,0,1],[1,0,2,4,3,5],[5,3,4,2,0,1,6]],[0,2,3],[(4,[]),(1,[]),(5,[6,7])]⟩
set_option maxHeartbeats 1000000 in
theorem votePut_row (l:List Vote) (h:okVotes l) (v:Vote) (hv:isF v.round∧isF v.author):ACalls Tryz.prog 142 [.d (.sl 3 (votesD l)),v.av] [] (fun av L=>(giveE l v≠0∧av = .tup [.d (.sl 3 (votesD l)),.d (.int .i64 (giveE l v))]∧L=[])∨(giveE l v=0∧av = .tup [.arr 0,.d (.int .i64 0)]∧L=[.row 106 3 (votesD (insV l v)) false])):=by
 have hcl:=votesD_length l
 have hlen:=h.len
 have hps:=posV_le l v.round v.author
 (refine acalls_go ttOk zOk foOk Tryz.func142 rfl Tryz.ntmps142 rfl true rfl ?_);(conv=>whnf)
 refine rdw ?_;repeat' ((with_reducible apply tw)<;>intro _)
 refine (voteOf_ok v).mono ?_
 rintro _ _ ⟨rfl,rfl⟩
 conv=>whnf
 refine rdw ?_;repeat' ((with_reducible apply tw)<;>intro _)
 refine (findV_ok l v.round v.author h.few h.sorted h.fit hv.1 hv.2).mono ?_
 rintro _ _ ⟨rfl,rfl⟩
 cases hat:atV l v.round v.author with
 | none =>
   conv=>whnf
   refine rdw ?_;repeat' ((with_reducible apply tw)<;>intro _)
   ((with_reducible refine draw_pl ttOk zOk foOk mixedOk pl142x2 ?_ ?_);(focus kernel_rfl);(conv=>whnf))
   refine rdw ?_;repeat' ((with_reducible apply tw)<;>intro _)
   ·rename_i hf
    replace hf:((votesD l).length:Int)=65536:=hf
    have e:giveE l v=8:=by rw [giveE,hat];simp only;rw [if_pos (by omega)]
    rw [e]
    exact .inl ⟨by decide,rfl,rfl⟩
   ·rename_i hf
    replace hf:¬((votesD l).length:Int)=65536:=hf
    have e:giveE l v=0:=by rw [giveE,hat];simp only;rw [if_neg (by omega)]
    (with_reducible refine draw_pl2 ttOk zOk foOk mixedOk plPut8 plPut8b ?_ ?_)
    focus kernel_rfl
    conv=>whnf
    refine rdw ?_;repeat' ((with_reducible apply tw)<;>intro _)
    constructor
    all_goals
     conv=>whnf
     refine rdw ?_;repeat' ((with_reducible apply tw)<;>intro _)
     refine (cloneV_row l (by omega)).mono ?_
     rintro _ _ ⟨rfl,rfl⟩
     conv=>whnf
     refine rdw ?_;repeat' ((with_reducible apply tw)<;>intro _)
     (refine Or.inr ?_;(conv=>whnf))
     refine (insertV_ok l v _ hps (by omega)).mono ?_
     rintro _ _ ⟨rfl,rfl⟩
     conv=>whnf
     refine rdw ?_;repeat' ((with_reducible apply tw)<;>intro _)
     exact .inr ⟨e,rfl,rfl⟩
 | some y =>
   have hpy:l[posV l v.round v.author]? = some y:=by
    rw [atV_pos h.sorted] at hat
    exact (Option.filter_eq_some_iff.1 hat).1
   have hlt:=(List.getElem?_eq_some_iff.1 hpy).1
   conv=>whnf
   refine rdw ?_;repeat' ((with_reducible apply tw)<;>intro _)
   ((with_reducible refine draw_pl ttOk zOk foOk mixedOk pl142x2 ?_ ?_);(focus kernel_rfl);(conv=>whnf))
   refine rdw ?_;repeat' ((with_reducible apply tw)<;>intro _)
   ((with_reducible apply rd_intro);(focus (intro K hK;(conv=>whnf);exact ⟨by omega,y.cs,votesD_at hpy,hK⟩));(conv=>whnf))
   refine rdw ?_;repeat' ((with_reducible apply tw)<;>intro _)
   ·rename_i h2
    have e:giveE l v=4:=by rw [giveE,hat];simp only;rw [if_pos h2]
    rw [e]
    exact .inl ⟨by decide,rfl,rfl⟩
   ·rename_i h2
    have e:giveE l v=5:=by rw [giveE,hat];simp only;rw [if_neg h2]
    rw [e]
    exact .inl ⟨by decide,rfl,rfl⟩
theorem votePut_ok (l:List Vote) (h:okVotes l) (v:Vote) (hv:isF v.round∧isF v.author):ACalls Tryz.prog 142 [.d (.sl 3 (votesD l)),v.av] [] (fun av L=>av = .tup [.d (.sl 3 (votesD (putV l v))),.d (.int .i64 (giveE l v))]∧L=[]):=by
 refine acalls_data (votePut_row l h v hv) ?_
 rintro _ _ (⟨h,rfl,rfl⟩|⟨h,rfl,rfl⟩)
 ·rw [putV,if_neg h]
  conv=>whnf
  exact ⟨rfl,rfl⟩
 ·rw [putV,if_pos h,h]
  conv=>whnf
  exact ⟨rfl,rfl⟩
def voteAt (l:List Vote) (r a:Int):Int:=((atV l r a).map (·.digest)).getD 0
theorem placeIs_ok (r a:Int):ACalls Tryz.prog 172 [.d (.int .i64 r),.d (.int .i64 a)] [] (fun av L=>av = .d (.bool (decide (0≤r∧r≤1099511627776∧1≤a∧a≤16)))∧L=[]):=by
 (refine acalls_go ttOk zOk foOk Tryz.func172 rfl Tryz.ntmps172 rfl false rfl ?_);(conv=>whnf)
 refine rdw ?_;repeat' ((with_reducible apply tw)<;>intro _)
 ·rename_i h1 h2 h3
  exact ⟨boolEq (by simp;omega),rfl⟩
 all_goals exact ⟨by rw [decide_eq_false (by omega)];rfl,rfl⟩
open Classical in
theorem voteMay1_ok (v:Vote):ACalls Tryz.prog 127 [v.av] [] (fun av L=>av = .d (.bool (decide (okVote v)))∧L=[]):=by
 (refine acalls_go ttOk zOk foOk Tryz.func127 rfl Tryz.ntmps127 rfl false rfl ?_);(conv=>whnf)
 refine rdw ?_;repeat' ((with_reducible apply tw)<;>intro _)
 ·rename_i h1
  refine (placeIs_ok v.round v.author).mono ?_
  rintro _ _ ⟨rfl,rfl⟩
  conv=>whnf
  refine rdw ?_;repeat' ((with_reducible apply tw)<;>intro _)
  ·rename_i h2
   refine (digest_ok v.digest).mono ?_
   rintro _ _ ⟨rfl,rfl⟩
   conv=>whnf
   refine ⟨boolEq ?_,rfl⟩
   simp only [decide_eq_true_iff]
   exact ⟨fun h=>⟨by omega,by omega,h⟩,fun h=>h.digest⟩
  ·rename_i h2
   exact ⟨by rw [decide_eq_false (fun h=>h2 (by have:=h.round;have:=h.author;omega))];rfl,rfl⟩
 ·rename_i h1
  exact ⟨by rw [decide_eq_false (fun h=>h1 (by have:=h.round;omega))];rfl,rfl⟩
structure mayV (l:List Vote) (j:Nat):Prop where
 votes:∀ v∈l.take j,okVote v
 sorted:sortedV (l.take j)
theorem mayV_succ {l:List Vote} {j:Nat} {v:Vote} (hv:l[j]? = some v) (h:mayV l j) (h1:okVote v) (h2:∀ y,0<j→l[j - 1]? = some y→y.before v.round v.author=true):mayV l (j+1):=by
 refine ⟨fun x hx => ?_,?_⟩
 ·rw [List.take_add_one,hv] at hx
  rcases List.mem_append.1 hx with hx|hx
  ·exact h.votes x hx
  ·simp at hx;subst hx;exact h1
 ·rw [sortedV,List.take_add_one,hv]
  refine List.pairwise_append.2 ⟨h.sorted,by simp,fun x hx y hy => ?_⟩
  simp at hy
  subst hy
  obtain ⟨i,hi,rfl⟩:=List.mem_take_iff_getElem.1 hx
  have hjl:=(List.getElem?_eq_some_iff.1 hv).1
  have hb:=h2 l[j - 1] (by omega) (List.getElem?_eq_getElem (by omega))
  by_cases hij:i=j - 1
  ·subst hij;exact hb
  ·have hs:=List.pairwise_iff_getElem.1 h.sorted i (j - 1) (by simp;omega) (by simp;omega) (by omega)
   simp only [List.getElem_take] at hs
   have hs:=beforeV_iff.1 hs
   have hb:=beforeV_iff.1 hb
   exact beforeV_iff.2 (by omega)
set_option maxHeartbeats 2000000 in
open Classical in
theorem voteMay_full (l:List Vote) (hl:few l):ACalls Tryz.prog 74 [.d (.sl 3 (votesD l))] [] (fun av L=>av = .d (.bool (decide (okVotes l)))∧L=[]):=by
 have hcl:=votesD_length l
 unfold few at hl
 (refine acalls_go ttOk zOk foOk Tryz.func74 rfl Tryz.ntmps74 rfl false rfl ?_);(conv=>whnf)
 refine scope_go ttOk zOk foOk (σ:=Nat) (fun j=>([(0,.d (.sl 3 (votesD l))),(3,.d (.int .i64 j))],[])) (fun k j=>(k=1∧j≤l.length∧l.length≤65536∧mayV l j)∨(k=0∧¬okVotes l)) (fun k j=>if k=0 then 0 else l.length - j+1) ?_ ?_
 ·rintro k rest hk j (⟨rfl,hj,hlen,hm⟩|⟨rfl,hno⟩)
  ·have e:=Option.some.inj (show some _=some rest from hk)
   subst e
   clear hk
   conv=>whnf
   refine rdw ?_;repeat' ((with_reducible apply tw)<;>intro _)
   ·rename_i h
    replace h:(j:Int)=((votesD l).length:Int):=h
    rw [hcl] at h
    obtain rfl:j=l.length:=by omega
    have:okVotes l:=⟨hlen,fun v hv=>hm.votes v (by rwa [List.take_length]),by have:=hm.sorted;rwa [List.take_length] at this⟩
    exact ⟨by rw [decide_eq_true this];rfl,rfl⟩
   ·rename_i h
    replace h:¬(j:Int)=((votesD l).length:Int):=h
    rw [hcl] at h
    refine Exists.elim (⟨_,List.getElem?_eq_getElem (by omega)⟩:∃ v,l[j]? = some v) fun v hv => ?_
    have hjl:=(List.getElem?_eq_some_iff.1 hv).1
    ((with_reducible refine draw_pl ttOk zOk foOk mixedOk pl74x5 ?_ ?_);(focus kernel_rfl);(conv=>whnf))
    refine rdw ?_;repeat' ((with_reducible apply tw)<;>intro _)
    ((with_reducible apply rd_intro);(focus (intro K hK;(conv=>whnf);exact ix_map hv (by first|rfl|omega) hK));(conv=>whnf))
    refine rdw ?_;repeat' ((with_reducible apply tw)<;>intro _)
    refine (voteMay1_ok v).mono ?_
    rintro _ _ ⟨rfl,rfl⟩
    by_cases hov:okVote v
    ·rw [decide_eq_true hov]
     conv=>whnf
     refine rdw ?_;repeat' ((with_reducible apply tw)<;>intro _)
     ·rename_i h0
      replace h0:(j:Int)=0:=h0
      refine into_of [0,3] ?_
      conv=>whnf
      exact ⟨j+1,rfl,rfl,.inl ⟨rfl,by omega,hlen,mayV_succ hv hm hov (fun y h1 _=>by omega)⟩,by simp;omega⟩
     ·rename_i h0
      replace h0:¬(j:Int)=0:=h0
      refine Exists.elim (⟨_,List.getElem?_eq_getElem (by omega)⟩:∃ v,l[j - 1]? = some v) fun y hy => ?_
      ((with_reducible apply rd_intro);(focus (intro K hK;(conv=>whnf);exact ⟨by omega,y.cs,(by rw [show ((j:Int) - 1).toNat=j - 1 by omega];exact votesD_at hy),hK⟩));(conv=>whnf))
      refine rdw ?_;repeat' ((with_reducible apply tw)<;>intro _)
      ((with_reducible apply rd_intro);(focus (intro K hK;(conv=>whnf);exact ⟨by omega,v.cs,votesD_at hv,hK⟩));(conv=>whnf))
      repeat' (first|(first|((with_reducible first|apply rd_intro|apply gd_and);(focus ((conv=>whnf)<;>first|rfl|(intro K hK;(conv=>whnf);first|exact hK|exact z_wrap (by omega) hK)));conv=>whnf)|((with_reducible apply z_wrap);(focus omega);conv=>whnf)|((with_reducible first|apply mt_dec|apply mt_eq|apply mt_ne|apply mt_not|apply mt_any)<;>(intro _;conv=>whnf)))|((with_reducible apply gd_and);(focus ((conv=>whnf);intro K hK;(conv=>whnf);exact ⟨by omega,y.cs,(by rw [show ((j:Int) - 1).toNat=j - 1 by omega];exact votesD_at hy),hK⟩));(conv=>whnf))|((with_reducible apply gd_and);(focus ((conv=>whnf);intro K hK;(conv=>whnf);exact ⟨by omega,v.cs,votesD_at hv,hK⟩));(conv=>whnf)))
      refine (voteOf_ok y).mono ?_
      rintro _ _ ⟨rfl,rfl⟩
      conv=>whnf
      repeat' (first|(first|((with_reducible first|apply rd_intro|apply gd_and);(focus ((conv=>whnf)<;>first|rfl|(intro K hK;(conv=>whnf);first|exact hK|exact z_wrap (by omega) hK)));conv=>whnf)|((with_reducible apply z_wrap);(focus omega);conv=>whnf)|((with_reducible first|apply mt_dec|apply mt_eq|apply mt_ne|apply mt_not|apply mt_any)<;>(intro _;conv=>whnf)))|((with_reducible apply gd_and);(focus ((conv=>whnf);intro K hK;(conv=>whnf);exact ⟨by omega,y.cs,(by rw [show ((j:Int) - 1).toNat=j - 1 by omega];exact votesD_at hy),hK⟩));(conv=>whnf))|((with_reducible apply gd_and);(focus ((conv=>whnf);intro K hK;(conv=>whnf);exact ⟨by omega,v.cs,votesD_at hv,hK⟩));(conv=>whnf)))
      refine (voteOf_ok v).mono ?_
      rintro _ _ ⟨rfl,rfl⟩
      conv=>whnf
      refine rdw ?_;repeat' ((with_reducible apply tw)<;>intro _)
      have hoy:okVote y:=hm.votes y (List.mem_of_getElem? (by rw [List.getElem?_take,if_pos (show j - 1<j by omega)];exact hy))
      refine (placeLess_ok hoy.fit.1 hoy.fit.2 hov.fit.1 hov.fit.2).mono ?_
      rintro _ _ ⟨rfl,rfl⟩
      conv=>whnf
      refine rdw ?_;repeat' ((with_reducible apply tw)<;>intro _)
      ·rename_i hb
       refine into_of [0,3] ?_
       conv=>whnf
       exact ⟨j+1,rfl,rfl,.inl ⟨rfl,by omega,hlen,mayV_succ hv hm hov (fun y' _ hy'=>by rw [hy] at hy';cases hy';exact beforeV_iff.2 hb)⟩,by simp;omega⟩
      ·rename_i hb
       have hno:¬okVotes l:=fun hh=>by
        have:=List.pairwise_iff_getElem.1 hh.sorted (j - 1) j (by omega) (by omega) (by omega)
        rw [(List.getElem?_eq_some_iff.1 hv).2,(List.getElem?_eq_some_iff.1 hy).2] at this
        exact hb (beforeV_iff.1 this)
       refine AW_go ttOk zOk foOk ?_
       conv=>whnf
       refine rdw ?_;repeat' ((with_reducible apply tw)<;>intro _)
       exact ⟨by rw [decide_eq_false hno];rfl,rfl⟩
    ·rw [decide_eq_false hov]
     conv=>whnf
     refine rdw ?_;repeat' ((with_reducible apply tw)<;>intro _)
     refine AW_go ttOk zOk foOk ?_
     conv=>whnf
     refine rdw ?_;repeat' ((with_reducible apply tw)<;>intro _)
     exact ⟨by rw [decide_eq_false (fun hh:okVotes l=>hov (hh.votes v (List.mem_of_getElem? hv)))];rfl,rfl⟩
  ·have e:=Option.some.inj (show some _=some rest from hk)
   subst e
   clear hk
   conv=>whnf
   refine rdw ?_;repeat' ((with_reducible apply tw)<;>intro _)
   exact ⟨by rw [decide_eq_false hno];rfl,rfl⟩
 ·intro pass
  conv=>whnf
  refine rdw ?_;repeat' ((with_reducible apply tw)<;>intro _)
  ·rename_i h
   refine into_of [0,3] ?_
   conv=>whnf
   exact ⟨0,rfl,rfl,.inr ⟨rfl,fun hh=>by have:=hh.len;omega⟩⟩
  ·rename_i h
   refine aw_at (σ:=Unit) (fun _=>([(0,.d (.sl 3 (votesD l))),(3,.d (.int .i64 (0:Nat)))],[])) (fun _=>True) [0,3] ?_ ?_
   ·conv=>whnf
    exact ⟨(),rfl,rfl,trivial⟩
   ·intro _ _
    exact pass 1 _ rfl 0 (.inl ⟨rfl,Nat.zero_le _,by omega,⟨by simp,by simp [sortedV]⟩⟩)
structure okMine (p:Prim):Prop where
 none:p.dig=0→p.mine.author=0∧p.mine.round=0∧p.mine.bats=[]∧p.mine.pars=[]∧p.acks=[]
 dig:p.dig≠0→1≤p.dig∧p.dig≤65536
 head:p.dig≠0→okHead p.nodes p.mine
 author:p.dig≠0→p.mine.author=p.id
 round:p.dig≠0→p.mine.round=p.said
 acks:p.dig≠0→riseB p.acks 1 p.nodes
 less:p.dig≠0→(p.acks.length:Int)<quo p.nodes
structure okLate (n:Int) (l:List Cert):Prop where
 len:l.length≤256
 ris:risingC l
 certs:∀ c∈l,okCert n c
structure May (p:Prim):Prop where
 isn:isN p.nodes=true
 id:1≤p.id∧p.id≤p.nodes
 round:1≤p.round∧p.round≤1099511627776
 age:0≤p.age∧p.age≤1099511627776
 said:0≤p.said∧p.said≤p.round
 mine:okMine p
 votes:okVotes p.votes
 dag:Valid p.dag
 same:p.dag.nodes=p.nodes
 late:okLate p.nodes p.late
structure Prim.ok (p:Prim):Prop where
 mine:p.mine.ok
 sigs:p.mine.sigs.length≤1099511627776
 acks:few p.acks
 votes:few p.votes
 dag:p.dag.ok
 late:few p.late∧∀ c∈p.late,c.ok
set_option maxHeartbeats 2000000 in
open Classical in
theorem mine_full (p:Prim) (hok:p.ok) (hn:isN p.nodes=true):ACalls Tryz.prog 73 [p.av] [] (fun av L=>av = .d (.bool (decide (okMine p)))∧L=[]):=by
 have hb:=hok.mine.bats.1
 have hp:=hok.mine.pars.1
 have ha:=hok.acks
 have hbl:=nums_length p.mine.bats
 have hpl:=nums_length p.mine.pars
 have hal:=nums_length p.acks
 have hnn:=of_decide_eq_true hn
 unfold few at hb hp ha
 (refine acalls_go ttOk zOk foOk Tryz.func73 rfl Tryz.ntmps73 rfl false rfl ?_);(conv=>whnf)
 refine rdw ?_;repeat' ((with_reducible apply tw)<;>intro _)
 ·rename_i h0 h1 h2
  refine ⟨boolEq ?_,rfl⟩
  simp only [beq_iff_eq,decide_eq_true_iff]
  constructor
  ·intro h
   have e1:p.mine.bats=[]:=List.eq_nil_of_length_eq_zero (by omega)
   have e2:p.mine.pars=[]:=List.eq_nil_of_length_eq_zero (by omega)
   have e3:p.acks=[]:=List.eq_nil_of_length_eq_zero (by omega)
   exact ⟨fun _=>⟨h1,h2,e1,e2,e3⟩,fun h=>absurd h0 h,fun h=>absurd h0 h,fun h=>absurd h0 h,fun h=>absurd h0 h,fun h=>absurd h0 h,fun h=>absurd h0 h⟩
  ·intro h
   obtain ⟨_,_,e1,e2,e3⟩:=h.none h0
   rw [e1] at hbl
   rw [e2] at hpl
   rw [e3] at hal
   simp at hbl hpl hal
   simp [e1,e2,e3,nums]
 ·rename_i h0 h1 h2
  exact ⟨by rw [decide_eq_false (fun h:okMine p=>h2 (h.none h0).2.1)];rfl,rfl⟩
 ·rename_i h0 h1
  exact ⟨by rw [decide_eq_false (fun h:okMine p=>h1 (h.none h0).1)];rfl,rfl⟩
 ·rename_i h0
  ((with_reducible refine draw_pl ttOk zOk foOk mixedOk pl73x3 ?_ ?_);(focus kernel_rfl);(conv=>whnf))
  refine rdw ?_;repeat' ((with_reducible apply tw)<;>intro _)
  (refine (digest_ok p.dig).mono ?_;rintro _ _ ⟨rfl,rfl⟩;(conv=>whnf))
  refine rdw ?_;repeat' ((with_reducible apply tw)<;>intro _)
  ·rename_i h1
   (refine (hMay_ok p.mine (ok_fewL hok.mine) p.nodes).mono ?_;rintro _ _ ⟨rfl,rfl⟩;(conv=>whnf))
   refine rdw ?_;repeat' ((with_reducible apply tw)<;>intro _)
   ·rename_i h2 h3 h4
    (refine (crising_ok p.acks hok.acks 1 p.nodes).mono ?_;rintro _ _ ⟨rfl,rfl⟩;(conv=>whnf))
    refine rdw ?_;repeat' ((with_reducible apply tw)<;>intro _)
    ·rename_i h5
     (refine (q_ok p.nodes ⟨by omega,by omega⟩).mono ?_;rintro _ _ ⟨rfl,rfl⟩;(conv=>whnf))
     refine rdw ?_;repeat' ((with_reducible apply tw)<;>intro _)
     refine ⟨boolEq ?_,rfl⟩
     simp only [decide_eq_true_iff,hal]
     exact ⟨fun h=>⟨fun h6=>absurd h6 h0,fun _=>h1,fun _=>h2,fun _=>h3,fun _=>h4,fun _=>h5,fun _=>h⟩,fun h=>h.less h0⟩
    ·rename_i h5
     exact ⟨by rw [decide_eq_false (fun h:okMine p=>h5 (h.acks h0))];rfl,rfl⟩
   ·rename_i h2 h3 h4
    exact ⟨by rw [decide_eq_false (fun h:okMine p=>h4 (h.round h0))];rfl,rfl⟩
   ·rename_i h2 h3
    exact ⟨by rw [decide_eq_false (fun h:okMine p=>h3 (h.author h0))];rfl,rfl⟩
   ·rename_i h2
    exact ⟨by rw [decide_eq_false (fun h:okMine p=>h2 (h.head h0))];rfl,rfl⟩
  ·rename_i h1
   exact ⟨by rw [decide_eq_false (fun h:okMine p=>h1 (h.dig h0))];rfl,rfl⟩
set_option maxHeartbeats 2000000 in
open Classical in
theorem late_full (n:Int) (l:List Cert) (hl:few l) (hc:∀ c∈l,fewL c):ACalls Tryz.prog 76 [.d (.sl 6 (certsD l)),.d (.int .i64 n)] [] (fun av L=>av = .d (.bool (decide (okLate n l)))∧L=[]):=by
 have hcl:=certsD_length l
 have hl':=hl
 unfold few at hl'
 (refine acalls_go ttOk zOk foOk Tryz.func76 rfl Tryz.ntmps76 rfl false rfl ?_);(conv=>whnf)
 refine loop_go ttOk zOk foOk (σ:=Nat) (fun j=>([(0,.d (.sl 6 (certsD l))),(1,.d (.int .i64 n)),(7,.d (.sl 6 (certsD l))),(8,.d (.int .i64 l.length)),(9,.d (.int .i64 j))],[])) (fun j=>j≤l.length∧risingC (l.take j)∧∀ c∈l.take j,okCert n c) (fun j=>l.length - j) [0,1,7,8,9] ?_ ?_
 ·conv=>whnf
  exact ⟨0,by rw [hcl];rfl,rfl,Nat.zero_le _,by simp [risingC],by simp⟩
 ·rintro j ⟨hj,hr,ho⟩
  conv=>whnf
  refine rdw ?_;repeat' ((with_reducible apply tw)<;>intro _)
  ·rename_i hjl
   refine Exists.elim (⟨_,List.getElem?_eq_getElem (by omega)⟩:∃ c,l[j]? = some c) fun c hcj => ?_
   have hcm:=List.mem_of_getElem? hcj
   have hm:=mayCert_ok c (hc c hcm) n
   have hsn:l.take (j+1)=l.take j++[c]:=by rw [List.take_add_one,hcj];rfl
   have hnext:okCert n c→(∀ b,0<j→l[j - 1]? = some b→b.digest<c.digest)→risingC (l.take (j+1))∧∀ c∈l.take (j+1),okCert n c:=by
    intro h1 h2
    rw [hsn]
    refine ⟨List.pairwise_append.2 ⟨hr,by simp,fun x hx y hy => ?_⟩,fun x hx => ?_⟩
    ·simp at hy
     subst hy
     obtain ⟨i,hi,rfl⟩:=List.mem_take_iff_getElem.1 hx
     have hb:=h2 l[j - 1] (by omega) (List.getElem?_eq_getElem (by omega))
     by_cases hij:i=j - 1
     ·subst hij;exact hb
     ·have hs:=List.pairwise_iff_getElem.1 hr i (j - 1) (by simp;omega) (by simp;omega) (by omega)
      simp only [List.getElem_take] at hs
      omega
    ·rcases List.mem_append.1 hx with hx|hx
     ·exact ho x hx
     ·simp at hx;subst hx;exact h1
   refine ⟨by omega,c.cs,certsD_at hcj,?_⟩
   conv=>whnf
   refine rdw ?_;repeat' ((with_reducible apply tw)<;>intro _)
   ((with_reducible refine draw_pl ttOk zOk foOk mixedOk pl76x4 ?_ ?_);(focus kernel_rfl);(conv=>whnf))
   refine rdw ?_;repeat' ((with_reducible apply tw)<;>intro _)
   refine hm.mono ?_
   rintro _ _ ⟨rfl,rfl⟩
   by_cases hoc:okCert n c
   ·rw [decide_eq_true hoc]
    conv=>whnf
    refine rdw ?_;repeat' ((with_reducible apply tw)<;>intro _)
    ·rename_i hj0
     replace hj0:(j:Int)>0:=hj0
     refine Exists.elim (⟨_,List.getElem?_eq_getElem (by omega)⟩:∃ b,l[j - 1]? = some b) fun b hb => ?_
     ((with_reducible apply rd_intro);(focus (intro K hK;(conv=>whnf);exact ⟨by omega,b.cs,(by rw [show ((j:Int) - 1).toNat=j - 1 by omega];exact certsD_at hb),hK⟩));(conv=>whnf))
     repeat' (first|(first|((with_reducible first|apply rd_intro|apply gd_and);(focus ((conv=>whnf)<;>first|rfl|(intro K hK;(conv=>whnf);first|exact hK|exact z_wrap (by omega) hK)));conv=>whnf)|((with_reducible apply z_wrap);(focus omega);conv=>whnf)|((with_reducible first|apply mt_dec|apply mt_eq|apply mt_ne|apply mt_not|apply mt_any)<;>(intro _;conv=>whnf)))|((with_reducible apply gd_and);(focus ((conv=>whnf);intro K hK;(conv=>whnf);exact ⟨by omega,b.cs,(by rw [show ((j:Int) - 1).toNat=j - 1 by omega];exact certsD_at hb),hK⟩));(conv=>whnf)))
     ·rename_i h
      replace h:b.digest≥c.digest:=h
      have hno:¬okLate n l:=fun hh=>by
       have:=List.pairwise_iff_getElem.1 hh.ris (j - 1) j (by omega) (by omega) (by omega)
       rw [(List.getElem?_eq_some_iff.1 hb).2,(List.getElem?_eq_some_iff.1 hcj).2] at this
       omega
      exact ⟨by rw [decide_eq_false hno];rfl,rfl⟩
     ·rename_i h
      replace h:¬b.digest≥c.digest:=h
      exact ⟨j+1,rfl,rfl,⟨by omega,hnext hoc (fun b' _ hb'=>by rw [hb] at hb';cases hb';omega)⟩,by omega⟩
    ·rename_i hj0
     replace hj0:¬(j:Int)>0:=hj0
     exact ⟨j+1,rfl,rfl,⟨by omega,hnext hoc (fun b' h0 _=>by omega)⟩,by omega⟩
   ·rw [decide_eq_false hoc]
    conv=>whnf
    refine rdw ?_;repeat' ((with_reducible apply tw)<;>intro _)
    exact ⟨by rw [decide_eq_false (fun hh:okLate n l=>hoc (hh.certs c hcm))];rfl,rfl⟩
  ·rename_i hjl
   have hjl2:l.take j=l:=List.take_of_length_le (by omega)
   rw [hjl2] at hr ho
   refine ⟨boolEq ?_,rfl⟩
   simp only [decide_eq_true_iff]
   exact ⟨fun h=>⟨by omega,hr,ho⟩,fun h=>by have:=h.len;omega⟩
open Classical in
theorem primMay_full (p:Prim) (hok:p.ok):ACalls Tryz.prog 41 [p.av] [] (fun av L=>av = .d (.bool (decide (May p)))∧L=[]):=by
 have hi:=is_ok p.nodes
 have hv:=voteMay_full p.votes hok.votes
 have hd:=dagMay_full p.dag hok.dag
 have hl:=late_full p.nodes p.late hok.late.1 (fun c hc=>ok_fewL (hok.late.2 c hc))
 (refine acalls_go ttOk zOk foOk Tryz.func41 rfl Tryz.ntmps41 rfl false rfl ?_);(conv=>whnf)
 refine rdw ?_;repeat' ((with_reducible apply tw)<;>intro _)
 refine hi.mono ?_
 rintro _ _ ⟨rfl,rfl⟩
 cases hn:isN p.nodes with
 | false =>
   conv=>whnf
   refine rdw ?_;repeat' ((with_reducible apply tw)<;>intro _)
   exact ⟨by rw [decide_eq_false (fun h:May p=>by have:=h.isn;rw [hn] at this;cases this)];rfl,rfl⟩
 | true =>
   have hm:=mine_full p hok hn
   conv=>whnf
   refine rdw ?_;repeat' ((with_reducible apply tw)<;>intro _)
   all_goals first
    | exact ⟨by rw [decide_eq_false (fun h:May p=>by have:=h.id;have:=h.round;have:=h.age;have:=h.said;omega)];rfl,rfl⟩
    | skip
   (refine (hm).mono ?_;rintro _ _ ⟨rfl,rfl⟩;(conv=>whnf))
   refine rdw ?_;repeat' ((with_reducible apply tw)<;>intro _)
   ·rename_i k8
    (refine (hv).mono ?_;rintro _ _ ⟨rfl,rfl⟩;(conv=>whnf))
    refine rdw ?_;repeat' ((with_reducible apply tw)<;>intro _)
    ·rename_i k9
     refine hd.mono ?_
     rintro _ _ ⟨rfl,rfl⟩
     by_cases hva:Valid p.dag
     ·rw [isV_yes hva]
      conv=>whnf
      refine rdw ?_;repeat' ((with_reducible apply tw)<;>intro _)
      ·rename_i k10
       (refine (hl).mono ?_;rintro _ _ ⟨rfl,rfl⟩;(conv=>whnf))
       refine rdw ?_;repeat' ((with_reducible apply tw)<;>intro _)
       refine ⟨boolEq ?_,rfl⟩
       simp only [decide_eq_true_iff]
       exact ⟨fun h=>⟨hn,by omega,by omega,by omega,by omega,k8,k9,hva,k10,h⟩,fun h=>h.late⟩
      ·rename_i k10
       exact ⟨by rw [decide_eq_false (fun h:May p=>k10 h.same)];rfl,rfl⟩
     ·rw [isV_no hva]
      conv=>whnf
      refine rdw ?_;repeat' ((with_reducible apply tw)<;>intro _)
      exact ⟨by rw [decide_eq_false (fun h:May p=>hva h.dag)];rfl,rfl⟩
    ·rename_i k9
     exact ⟨by rw [decide_eq_false (fun h:May p=>k9 h.votes)];rfl,rfl⟩
   ·rename_i k8
    exact ⟨by rw [decide_eq_false (fun h:May p=>k8 h.mine)];rfl,rfl⟩
end Go.Proofs.YtolkmjfkkkiboaaGreat
set_option linter.unusedVariables false
set_option linter.unusedSimpArgs false
namespace Go.Proofs.YtolkmjfkkkiboaaGreat
open Go.Ab Go.RowKit Go.MapKept
attribute [local irreducible] ACalls AW ADraw Into fltB fnear
set_option maxRecDepth 100000
theorem txsD_len (l:List Tx):(txsD l).length=l.length:=List.length_map ..
theorem txsD_at {l:List Tx} {k:Nat} {c:Tx} (h:l[k]? = some c):(txsD l)[k]? = some c.cs:=by simp [txsD,h]
def Msg.bav (m:Msg):AV := .agg [.d (.int .i64 m.ba),.d (.int .i64 m.bn),.d (.sl 4 (txsD m.txs))]
structure Msg.fine (m:Msg):Prop where
 txs:few m.txs
 head:fewL m.head
 cert:fewL m.cert
 digs:few m.digs
end Go.Proofs.YtolkmjfkkkiboaaGreat
namespace Go.Proofs.YtolkmjfkkkiboaaGreat
open Go Go.Ab Go.RowKit Go.Lib Go.Proofs Go.Shelf
set_option maxRecDepth 100000
end Go.Proofs.YtolkmjfkkkiboaaGreat
namespace Go.Proofs.YtolkmjfkkkiboaaGreat
open Go.Ab Go.RowKit Go.MapKept
attribute [local irreducible] ACalls AW ADraw Into fltB fnear
set_option maxRecDepth 100000
structure CertdOk (p:Prim):Prop where
 cert:okCert p.dag.nodes (certP p)
 tiny:(certP p).tiny
 fine:Fine p.dag p.late
 room:p.dag.certs.length+p.late.length<60000
 ris:risingC p.late
end Go.Proofs.YtolkmjfkkkiboaaGreat
