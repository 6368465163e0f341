/- PrimaryComes: contracts. -/
import Derived.Test.YtolkmjfkkkiboaaGreatPrimaryComesCodO
set_option linter.unusedVariables false
set_option linter.unusedSimpArgs false
open Go Go.Claim Go.Proofs
namespace Go.Proofs.YtolkmjfkkkiboaaGreat
open Go.Ab Go.RowKit Go.MapKept
attribute [local irreducible] ACalls AW ADraw Into fltB fnear
set_option maxRecDepth 100000
set_option maxHeartbeats 2000000 in
set_option maxRecDepth 100000 in
theorem primary_sp (lo n k:Nat) (w:World) (i0 i1 i2 i3 i4 i5 i6 i9 i12 i13:Int) (v7 v8 v10 v11 v14 v15:Value) (h7:SL lo n w (k+2) 1 v7) (h8:SL lo n w (k+2) 1 v8) (h10:SL lo n w (k+2) 1 v10) (h11:SL lo n w (k+2) 3 v11) (h14:SL lo n w (k+2) 6 v14) (h15:SL lo n w (k+2) 6 v15) (hbl:∀ b,lo≤b→b<lo+n→b<w.heap.size) :
  Calls Tryz.prog 62 #[.agg #[.int .i64 i0,.int .i64 i1,.int .i64 i2,.int .i64 i3,.int .i64 i4,.int .i64 i5,.int .i64 i6,v7,v8,.int .i64 i9,v10,v11,.int .i64 i12,.int .i64 i13,v14,v15]] w fun e w'=>e = .returned (.tuple #[])∧Spoil lo n w w':=by
 obtain ⟨p7,l7,c7,rfl⟩:=sl_slice h7
 obtain ⟨p8,l8,c8,rfl⟩:=sl_slice h8
 obtain ⟨p10,l10,c10,rfl⟩:=sl_slice h10
 obtain ⟨p11,l11,c11,rfl⟩:=sl_slice h11
 obtain ⟨p14,l14,c14,rfl⟩:=sl_slice h14
 obtain ⟨p15,l15,c15,rfl⟩:=sl_slice h15
 obtain ⟨cs,hcs⟩:∃ cs:Array Value,cs = #[.int .i64 i0,.int .i64 i1,.int .i64 i2,.int .i64 i3,.int .i64 i4,.int .i64 i5,.int .i64 i6,.slice p7 l7 c7,.slice p8 l8 c8,.int .i64 i9,.slice p10 l10 c10,.slice p11 l11 c11,.int .i64 i12,.int .i64 i13,.slice p14 l14 c14,.slice p15 l15 c15]:=⟨_,rfl⟩
 have hA:=Spoil.keeps hbl (Keeps.alloc w (.cells cs 30))
 have hblA:∀ b,lo≤b→b<lo+n→b<(w.alloc (.cells cs 30)).heap.size:=fun b g1 g2=>Nat.lt_of_lt_of_le (hbl b g1 g2) hA.size
 have d10:(w.alloc (.cells cs 30)).cell? ⟨w.heap.size,10,none⟩=some (.slice p10 l10 c10):=by rw [cell_of_row _ _ 10 _ _ _ (heap_alloc_new w _),hcs];rfl
 have d11:(w.alloc (.cells cs 30)).cell? ⟨w.heap.size,11,none⟩=some (.slice p11 l11 c11):=by rw [cell_of_row _ _ 11 _ _ _ (heap_alloc_new w _),hcs];rfl
 have d14:(w.alloc (.cells cs 30)).cell? ⟨w.heap.size,14,none⟩=some (.slice p14 l14 c14):=by rw [cell_of_row _ _ 14 _ _ _ (heap_alloc_new w _),hcs];rfl
 have d15:(w.alloc (.cells cs 30)).cell? ⟨w.heap.size,15,none⟩=some (.slice p15 l15 c15):=by rw [cell_of_row _ _ 15 _ _ _ (heap_alloc_new w _),hcs];rfl
 have hout:¬(lo≤w.heap.size∧w.heap.size<lo+n):=isle_out hbl (Nat.le_refl _)
 replace h7:=hA.sl _ _ _ h7
 replace h8:=hA.sl _ _ _ h8
 replace h10:=hA.sl _ _ _ h10
 replace h11:=hA.sl _ _ _ h11
 replace h14:=hA.sl _ _ _ h14
 replace h15:=hA.sl _ _ _ h15
 subst hcs
 go_enter Tryz.func62,Tryz.ntmps62
 go_wp2_with (go_at_call 47;(with_reducible refine (header_sp lo n (k+1) _ i5 i6 (.slice p7 l7 c7) (.slice p8 l8 c8) h7 h8 hblA).mono ?_);rintro e w1 ⟨rfl,hS1⟩;have hbl1:∀ b,lo≤b→b<lo+n→b<w1.heap.size:=fun b g1 g2=>Nat.lt_of_lt_of_le (hblA b g1 g2) hS1.size;have e10:=Spoil.cellOf (a:=⟨w.heap.size,10,none⟩) hS1 hout d10)
 go_wp2_with (go_at_call 50;(with_reducible refine (numbers_sp lo n (k+1) _ (.slice p10 l10 c10) (hS1.sl _ _ _ h10) hbl1).mono ?_);rintro e w2 ⟨rfl,hS2⟩;clear e10;have hbl2:∀ b,lo≤b→b<lo+n→b<w2.heap.size:=fun b g1 g2=>Nat.lt_of_lt_of_le (hbl1 b g1 g2) hS2.size;have e11:=Spoil.cellOf (a:=⟨w.heap.size,11,none⟩) (hS1.trans hS2) hout d11)
 go_wp2_with (go_at_call 122;(with_reducible refine (votes_sp lo n (k+1) _ (.slice p11 l11 c11) ((hS1.trans hS2).sl _ _ _ h11) hbl2).mono ?_);rintro e w3 ⟨rfl,hS3⟩;clear e11;have hbl3:∀ b,lo≤b→b<lo+n→b<w3.heap.size:=fun b g1 g2=>Nat.lt_of_lt_of_le (hbl2 b g1 g2) hS3.size;have e14:=Spoil.cellOf (a:=⟨w.heap.size,14,none⟩) ((hS1.trans hS2).trans hS3) hout d14)
 go_wp2_with (go_at_call 123;(with_reducible refine (certs_sp lo n k _ (.slice p14 l14 c14) (((hS1.trans hS2).trans hS3).sl _ _ _ h14) hbl3).mono ?_);rintro e w4 ⟨rfl,hS4⟩;clear e14;have hbl4:∀ b,lo≤b→b<lo+n→b<w4.heap.size:=fun b g1 g2=>Nat.lt_of_lt_of_le (hbl3 b g1 g2) hS4.size;have e15:=Spoil.cellOf (a:=⟨w.heap.size,15,none⟩) (((hS1.trans hS2).trans hS3).trans hS4) hout d15)
 go_wp2_with (go_at_call 123;(with_reducible refine (certs_sp lo n k _ (.slice p15 l15 c15) ((((hS1.trans hS2).trans hS3).trans hS4).sl _ _ _ h15) hbl4).mono ?_);rintro e w5 ⟨rfl,hS5⟩)
 go_end0
 exact ⟨rfl,hA.trans ((((hS1.trans hS2).trans hS3).trans hS4).trans hS5)⟩
attribute [local irreducible] SL
theorem fsI (l:List Int) (h:l.length≤4294967296) (k:Nat):FitS (k+1) 1 (.sl 1 (nums l)) := .inr ⟨_,rfl,by rw [nums_length];exact h,fun cs hcs=>by
 obtain ⟨x,_,rfl⟩:=List.mem_map.1 hcs
 exact ⟨x,[],rfl,rfl⟩⟩
theorem fsV (l:List Vote) (h:l.length≤4294967296) (k:Nat):FitS (k+1) 3 (.sl 3 (votesD l)) := .inr ⟨_,rfl,by rw [votesD_length];exact h,fun cs hcs=>by
 obtain ⟨x,_,rfl⟩:=List.mem_map.1 hcs
 exact ⟨x.round,_,rfl,x.author,_,rfl,x.digest,[],rfl,rfl⟩⟩
theorem fsT (l:List Tx) (h:l.length≤4294967296) (k:Nat):FitS (k+1) 4 (.sl 4 (txsD l)) := .inr ⟨_,rfl,by rw [txsD,List.length_map];exact h,fun cs hcs=>by
 obtain ⟨x,_,rfl⟩:=List.mem_map.1 hcs
 exact ⟨x.sender,_,rfl,x.seq,_,rfl,x.key,_,rfl,x.val,[],rfl,rfl⟩⟩
structure Cert.fitS (c:Cert):Prop where
 bats:c.bats.length≤4294967296
 pars:c.pars.length≤4294967296
 sigs:c.sigs.length≤4294967296
theorem fsC (l:List Cert) (h:l.length≤4294967296) (hc:∀ c∈l,c.fitS) (k:Nat):FitS (k+2) 6 (.sl 6 (certsD l)) := .inr ⟨_,rfl,by rw [certsD_length];exact h,fun cs hcs=>by
 obtain ⟨x,hx,rfl⟩:=List.mem_map.1 hcs
 have hf:=hc x hx
 exact ⟨x.author,_,rfl,x.round,_,rfl,_,_,rfl,fsI x.bats hf.bats k,_,_,rfl,fsI x.pars hf.pars k,x.digest,_,rfl,_,_,rfl,fsI x.sigs hf.sigs k,rfl⟩⟩
structure Msg.fitS (m:Msg):Prop where
 txs:m.txs.length≤4294967296
 head:m.head.fitS
 cert:m.cert.fitS
 digs:m.digs.length≤4294967296
theorem fsM (l:List Msg) (h:l.length≤4294967296) (hc:∀ m∈l,m.fitS):FitS 3 18 (.sl 18 (msgsD l)) := .inr ⟨_,rfl,by rw [msgsD_length];exact h,fun cs hcs=>by
 obtain ⟨x,hx,rfl⟩:=List.mem_map.1 hcs
 have hf:=hc x hx
 exact ⟨x.kind,_,rfl,x.src,_,rfl,x.dst,_,rfl,x.digest,_,rfl,x.ba,_,rfl,x.bn,_,rfl,_,_,rfl,fsT x.txs hf.txs 1,x.head.author,_,rfl,x.head.round,_,rfl,_,_,rfl,fsI x.head.bats hf.head.bats 1,_,_,rfl,fsI x.head.pars hf.head.pars 1,
  x.cert.author,_,rfl,x.cert.round,_,rfl,_,_,rfl,fsI x.cert.bats hf.cert.bats 1,_,_,rfl,fsI x.cert.pars hf.cert.pars 1,x.cert.digest,_,rfl,_,_,rfl,fsI x.cert.sigs hf.cert.sigs 1,_,_,rfl,fsI x.digs hf.digs 1,rfl⟩⟩
def Prim.ai (p:Prim) (i:Nat):AV := .agg [.d (.int .i64 p.id),.d (.int .i64 p.nodes),.d (.int .i64 p.round),.d (.int .i64 p.age),.d (.int .i64 p.said),.d (.int .i64 p.mine.author),.d (.int .i64 p.mine.round),.isl i (.sl 1 (nums p.mine.bats)),.isl i (.sl 1 (nums p.mine.pars)),.d (.int .i64 p.dig),.isl i (.sl 1 (nums p.acks)),.isl i (.sl 3 (votesD p.votes)),.d (.int .i64 p.dag.nodes),.d (.int .i64 p.dag.low),.isl i (.sl 6 (certsD p.dag.certs)),.isl i (.sl 6 (certsD p.late))]
structure Prim.fitS (p:Prim):Prop where
 bats:p.mine.bats.length≤4294967296
 pars:p.mine.pars.length≤4294967296
 acks:p.acks.length≤4294967296
 votes:p.votes.length≤4294967296
 dag:p.dag.certs.length≤4294967296∧∀ c∈p.dag.certs,c.fitS
 late:p.late.length≤4294967296∧∀ c∈p.late,c.fitS
theorem spoilP_ok (p:Prim) (h:p.fitS) (lo n:Nat) (ok:IsK):ACalls Tryz.prog 62 [p.ai 0] [.isle lo n ok] (fun av L=>av = .tup []∧L=[.isle lo n false]):=by
 refine acalls_spoil fun c E w vs hbl hv => ?_
 simp only [VRt,Prim.ai] at hv
 obtain ⟨u,us',hvs,hu,rfl⟩:=hv
 have hu0:=hu
 simp only [VR] at hu
 obtain ⟨us,rfl,hus⟩:=hu
 simp only [VRs] at hus
 obtain ⟨a0,_,e,-,h0,a1,_,rfl,-,h1,a2,_,rfl,-,h2,a3,_,rfl,-,h3,a4,_,rfl,-,h4,a5,_,rfl,-,h5,a6,_,rfl,-,h6,a7,_,rfl,-,h7,a8,_,rfl,-,h8,a9,_,rfl,-,h9,a10,_,rfl,-,h10,a11,_,rfl,-,h11,a12,_,rfl,-,h12,a13,_,rfl,-,h13,a14,_,rfl,-,h14,a15,_,rfl,-,h15,rfl⟩:=hus
 have hi:∀ {z:Int} {a:Value},VR (rcOf c.M0 E [.isle lo n ok] w) (.d (.int .i64 z)) a→a = .int .i64 z:=fun {z a} hz=>by simpa only [VR,VD] using hz
 have b0:=hi h0
 have b1:=hi h1
 have b2:=hi h2
 have b3:=hi h3
 have b4:=hi h4
 have b5:=hi h5
 have b6:=hi h6
 have b9:=hi h9
 have b12:=hi h12
 have b13:=hi h13
 subst b0 b1 b2 b3 b4 b5 b6 b9 b12 b13
 have hvs':vs = #[.agg #[.int .i64 p.id,.int .i64 p.nodes,.int .i64 p.round,.int .i64 p.age,.int .i64 p.said,.int .i64 p.mine.author,.int .i64 p.mine.round,a7,a8,.int .i64 p.dig,a10,a11,.int .i64 p.dag.nodes,.int .i64 p.dag.low,a14,a15]]:=by
  rw [← Array.toArray_toList (xs:=vs),hvs,← Array.toArray_toList (xs:=us),e]
 rw [hvs']
 exact primary_sp lo n 1 w _ _ _ _ _ _ _ _ _ _ _ _ _ _ _ _ (isl_SL (fsI _ h.bats 2) h7) (isl_SL (fsI _ h.pars 2) h8) (isl_SL (fsI _ h.acks 2) h10) (isl_SL (fsV _ h.votes 2) h11) (isl_SL (fsC _ h.dag.1 h.dag.2 1) h14) (isl_SL (fsC _ h.late.1 h.late.2 1) h15) hbl
theorem spoilM_ok (l:List Msg) (h:l.length≤4294967296) (hl:∀ m∈l,m.fitS) (lo n:Nat) (ok:IsK):ACalls Tryz.prog 60 [.isl 0 (.sl 18 (msgsD l))] [.isle lo n ok] (fun av L=>av = .tup []∧L=[.isle lo n false]):=by
 refine acalls_spoil fun c E w vs hbl hv => ?_
 simp only [VRt] at hv
 obtain ⟨u,us',hvs,hu,rfl⟩:=hv
 have hvs':vs = #[u]:=by rw [← Array.toArray_toList (xs:=vs),hvs]
 rw [hvs']
 exact messages_sp lo n 0 w u (isl_SL (fsM l h hl) hu) hbl
end Go.Proofs.YtolkmjfkkkiboaaGreat
namespace Go.Proofs.YtolkmjfkkkiboaaGreat
open Go.Ab Go.RowKit Go.MapKept
attribute [local irreducible] ACalls AW ADraw Into fltB fnear
set_option maxRecDepth 100000
def Msg.from (m:Msg) (p:Prim):Msg:={ m with src:=p.id }
set_option maxHeartbeats 1000000 in
theorem tells20_ok (p:Prim) (out:List Msg) (ho:out.length≤1000000000) (m:Msg):ACalls Tryz.prog 97 [.ptr 0 0,m.av] (p.st out) (fun av L=>av = .tup []∧L=p.st1 (out++[m.from p])):=by
 have hml:=msgsD_length out
 (refine acalls_go ttOk zOk foOk Tryz.func97 rfl Tryz.ntmps97 rfl false rfl ?_);(conv=>whnf)
 refine rdw ?_;repeat' ((with_reducible apply tw)<;>intro _)
 ((with_reducible refine draw_pl ttOk zOk foOk mixedOk pl97x2 ?_ ?_);(focus kernel_rfl);(conv=>whnf))
 refine rdw ?_;repeat' ((with_reducible apply tw)<;>intro _)
 refine ⟨by simp;omega,?_⟩
 conv=>whnf
 refine rdw ?_;repeat' ((with_reducible apply tw)<;>intro _)
 refine ⟨rfl,?_⟩
 rw [Prim.st1,show msgsD (out++[m.from p])=msgsD out++[(m.from p).cs] by simp [msgsD]]
 rfl
theorem riseN_len2 {l:List Int} {n:Nat} (h:riseB l 1 n):l.length≤n:=by
 have:=sub_len (m:=(List.range n).map fun n:Nat=>(n:Int)+1) (rising_nodup h.1) fun x hx=>by
  have:=h.2 x hx
  exact List.mem_map.2 ⟨(x - 1).toNat,by simp;omega,by omega⟩
 simpa using this
end Go.Proofs.YtolkmjfkkkiboaaGreat
namespace Go.Ab
open Go.RowKit
end Go.Ab
namespace Go.Proofs.YtolkmjfkkkiboaaGreat
open Go.Ab Go.RowKit Go.MapKept
attribute [local irreducible] ACalls AW ADraw Into fltB fnear
set_option maxRecDepth 100000
theorem eqVotes_same (l:List Vote) (hl:few l):ACalls Tryz.prog 86 [.d (.sl 3 (votesD l)),.d (.sl 3 (votesD l))] [] (fun av L=>av = .d (.bool true)∧L=[]):=by
 have hcl:=votesD_length l
 unfold few at hl
 (refine acalls_go ttOk zOk foOk Tryz.func86 rfl Tryz.ntmps86 rfl false rfl ?_);(conv=>whnf)
 refine rdw ?_;repeat' ((with_reducible apply tw)<;>intro _)
 ·rename_i hx;exact absurd rfl hx
 ·refine loop_go ttOk zOk foOk (σ:=Nat) (fun k=>([(0,.d (.sl 3 (votesD l))),(1,.d (.sl 3 (votesD l))),(5,.d (.int .i64 k))],[])) (fun k=>k≤l.length) (fun k=>l.length - k) [0,1,5] ?_ ?_
  ·conv=>whnf
   exact ⟨0,rfl,rfl,by omega⟩
  ·intro k hk
   conv=>whnf
   rw [hcl]
   refine rdw ?_;repeat' ((with_reducible apply tw)<;>intro _)
   ·rename_i hkl
    refine Exists.elim (⟨_,List.getElem?_eq_getElem (by omega)⟩:∃ c,l[k]? = some c) fun c hc => ?_
    ((with_reducible refine draw_pl ttOk zOk foOk mixedOk pl86x6 ?_ ?_);(focus kernel_rfl);(conv=>whnf))
    repeat' (first|(first|((with_reducible first|apply rd_intro|apply gd_and);(focus ((conv=>whnf)<;>first|rfl|(intro K hK;(conv=>whnf);first|exact hK|exact z_wrap (by omega) hK)));conv=>whnf)|((with_reducible apply z_wrap);(focus omega);conv=>whnf)|((with_reducible first|apply mt_dec|apply mt_eq|apply mt_ne|apply mt_not|apply mt_any)<;>(intro _;conv=>whnf)))|((with_reducible apply rd_intro);(focus (intro K hK;(conv=>whnf);exact ⟨by omega,c.cs,votesD_at hc,hK⟩));(conv=>whnf))|((with_reducible apply rd_intro);(focus (intro K hK;(conv=>whnf);exact ix_map hc (by first|rfl|omega) hK));(conv=>whnf))|((with_reducible apply rd_intro);(focus (intro K hK;(conv=>whnf);exact ⟨eqVote_ok,hK⟩));(conv=>whnf))|fail)
    ·rename_i hx
     exfalso
     simp at hx
    ·exact ⟨k+1,rfl,rfl,by omega,by omega⟩
   ·exact ⟨rfl,rfl⟩
theorem eqPrim_same (p:Prim) (h:p.ok) (hd:few p.dag.certs∧∀ c∈p.dag.certs,fewL c) (hl:few p.late∧∀ c∈p.late,fewL c) (hv:few p.votes) (ha:few p.acks) (hm:few p.mine.bats∧few p.mine.pars) :
  ACalls Tryz.prog 45 [p.av,p.av] [] (fun av L=>av = .d (.bool true)∧L=[]):=by
 have h1:=eqHeader_ok p.mine p.mine hm
 have h2:=eqNumbers_ok p.acks p.acks ha
 have h3:=eqVotes_same p.votes hv
 have h4:=eqDag_same p.dag hd.1 hd.2
 have h5:=eqCerts_same p.late hl.1 hl.2
 rw [decide_eq_true ⟨rfl,rfl,rfl,rfl⟩] at h1
 rw [decide_eq_true rfl] at h2
 (refine acalls_go ttOk zOk foOk Tryz.func45 rfl Tryz.ntmps45 rfl false rfl ?_);(conv=>whnf)
 repeat' (first|(first|((with_reducible first|apply rd_intro|apply gd_and);(focus ((conv=>whnf)<;>first|rfl|(intro K hK;(conv=>whnf);first|exact hK|exact z_wrap (by omega) hK)));conv=>whnf)|((with_reducible apply z_wrap);(focus omega);conv=>whnf)|((with_reducible first|apply mt_dec|apply mt_eq|apply mt_ne|apply mt_not|apply mt_any)<;>(intro _;conv=>whnf)))|(refine (h1).mono ?_;rintro _ _ ⟨rfl,rfl⟩;(conv=>whnf))|(refine (h2).mono ?_;rintro _ _ ⟨rfl,rfl⟩;(conv=>whnf))|(refine (h3).mono ?_;rintro _ _ ⟨rfl,rfl⟩;(conv=>whnf))|(refine (h4).mono ?_;rintro _ _ ⟨rfl,rfl⟩;(conv=>whnf))|(refine (h5).mono ?_;rintro _ _ ⟨rfl,rfl⟩;(conv=>whnf))|fail)
 all_goals first
  | exact ⟨rfl,rfl⟩
  | (rename_i hx;exact absurd rfl hx)
end Go.Proofs.YtolkmjfkkkiboaaGreat
set_option linter.unusedVariables false
set_option linter.unusedSimpArgs false
namespace Go.Proofs.YtolkmjfkkkiboaaGreat
open Go.Ab Go.RowKit Go.MapKept
attribute [local irreducible] ACalls AW ADraw Into fltB fnear
set_option maxRecDepth 100000
theorem eqTxs_e:ACalls Tryz.prog 170 [.d (.sl 4 []),.d (.sl 4 [])] [] (fun av L=>av = .d (.bool true)∧L=[]):=by
 (refine acalls_go ttOk zOk foOk Tryz.func170 rfl Tryz.ntmps170 rfl false rfl ?_);(conv=>whnf)
 refine rdw ?_;repeat' ((with_reducible apply tw)<;>intro _)
 refine loop_go ttOk zOk foOk (σ:=Unit) (fun _=>([(0,.d (.sl 4 [])),(1,.d (.sl 4 [])),(5,.d (.int .i64 0))],[])) (fun _=>True) (fun _=>0) [0,1,5] ?_ ?_
 ·conv=>whnf
  exact ⟨(),rfl,rfl,trivial⟩
 ·intro _ _
  conv=>whnf
  refine rdw ?_;repeat' ((with_reducible apply tw)<;>intro _)
  exact ⟨rfl,rfl⟩
theorem eqBatch_e (a b:Int):ACalls Tryz.prog 118 [.agg [.d (.int .i64 a),.d (.int .i64 b),.d (.sl 4 [])],.agg [.d (.int .i64 a),.d (.int .i64 b),.d (.sl 4 [])]] [] (fun av L=>av = .d (.bool true)∧L=[]):=by
 have h1:=eqTxs_e
 (refine acalls_go ttOk zOk foOk Tryz.func118 rfl Tryz.ntmps118 rfl false rfl ?_);(conv=>whnf)
 refine rdw ?_;repeat' ((with_reducible apply tw)<;>intro _)
 ·(refine (h1).mono ?_;rintro _ _ ⟨rfl,rfl⟩;(conv=>whnf))
  exact ⟨rfl,rfl⟩
 all_goals (rename_i hx;exact absurd rfl hx)
theorem eqMsg_same (m:Msg) (hf:m.fine) (ht:m.txs=[]):ACalls Tryz.prog 59 [m.av,m.av] [] (fun av L=>av = .d (.bool true)∧L=[]):=by
 obtain ⟨kind,src,dst,digest,ba,bn,txs,head,cert,digs⟩:=m
 replace ht:txs=[]:=ht
 subst ht
 have h1:=eqBatch_e ba bn
 have h2:=eqHeader_same head hf.head
 have h3:=eqCert_same cert hf.cert
 have h4:=eqNumbers_ok digs digs hf.digs
 rw [decide_eq_true rfl] at h4
 (refine acalls_go ttOk zOk foOk Tryz.func59 rfl Tryz.ntmps59 rfl false rfl ?_);(conv=>whnf)
 refine rdw ?_;repeat' ((with_reducible apply tw)<;>intro _)
 ·(refine (h1).mono ?_;rintro _ _ ⟨rfl,rfl⟩;(conv=>whnf))
  refine rdw ?_;repeat' ((with_reducible apply tw)<;>intro _)
  ·(refine (h2).mono ?_;rintro _ _ ⟨rfl,rfl⟩;(conv=>whnf))
   refine rdw ?_;repeat' ((with_reducible apply tw)<;>intro _)
   ·(refine (h3).mono ?_;rintro _ _ ⟨rfl,rfl⟩;(conv=>whnf))
    refine rdw ?_;repeat' ((with_reducible apply tw)<;>intro _)
    ·(refine (h4).mono ?_;rintro _ _ ⟨rfl,rfl⟩;(conv=>whnf))
     exact ⟨rfl,rfl⟩
 all_goals (rename_i hx;exact absurd rfl hx)
theorem msgsD_at {l:List Msg} {i:Nat} {m:Msg} (h:l[i]? = some m):(msgsD l)[(i:Int).toNat]? = some m.cs:=by
 rw [Int.toNat_natCast,msgsD,List.getElem?_map,h]
 rfl
theorem eqMsgs_same (l:List Msg) (hl:few l) (h:∀ m∈l,m.fine∧m.txs=[]):ACalls Tryz.prog 61 [.d (.sl 18 (msgsD l)),.d (.sl 18 (msgsD l))] [] (fun av L=>av = .d (.bool true)∧L=[]):=by
 have hcl:=msgsD_length l
 unfold few at hl
 (refine acalls_go ttOk zOk foOk Tryz.func61 rfl Tryz.ntmps61 rfl false rfl ?_);(conv=>whnf)
 refine rdw ?_;repeat' ((with_reducible apply tw)<;>intro _)
 ·rename_i hx;exact absurd rfl hx
 ·refine loop_go ttOk zOk foOk (σ:=Nat) (fun k=>([(0,.d (.sl 18 (msgsD l))),(1,.d (.sl 18 (msgsD l))),(5,.d (.int .i64 k))],[])) (fun k=>k≤l.length) (fun k=>l.length - k) [0,1,5] ?_ ?_
  ·conv=>whnf
   exact ⟨0,rfl,rfl,by omega⟩
  ·intro k hk
   conv=>whnf
   rw [hcl]
   refine rdw ?_;repeat' ((with_reducible apply tw)<;>intro _)
   ·rename_i hkl
    refine Exists.elim (⟨_,List.getElem?_eq_getElem (by omega)⟩:∃ c,l[k]? = some c) fun c hc => ?_
    have hh:=h c (List.mem_of_getElem? hc)
    have h1:=eqMsg_same c hh.1 hh.2
    ((with_reducible refine draw_pl ttOk zOk foOk mixedOk pl61x6 ?_ ?_);(focus kernel_rfl);(conv=>whnf))
    refine rdw ?_;repeat' ((with_reducible apply tw)<;>intro _)
    ((with_reducible apply rd_intro);(focus (intro K hK;(conv=>whnf);exact ⟨by omega,c.cs,msgsD_at hc,hK⟩));(conv=>whnf))
    refine rdw ?_;repeat' ((with_reducible apply tw)<;>intro _)
    ((with_reducible apply rd_intro);(focus (intro K hK;(conv=>whnf);exact ⟨by omega,c.cs,msgsD_at hc,hK⟩));(conv=>whnf))
    refine rdw ?_;repeat' ((with_reducible apply tw)<;>intro _)
    refine h1.mono ?_
    rintro _ _ ⟨rfl,rfl⟩
    conv=>whnf
    refine rdw ?_;repeat' ((with_reducible apply tw)<;>intro _)
    exact ⟨k+1,rfl,rfl,by omega,by omega⟩
   ·exact ⟨rfl,rfl⟩
structure Msg.nice (m:Msg):Prop where
 fine:m.fine
 txs:m.txs=[]
 fit:m.fitS
theorem fit_few {c:Cert} (h:c.fitS):fewL c:=⟨by have:=h.bats;unfold few;omega,by have:=h.pars;unfold few;omega,by have:=h.sigs;unfold few;omega⟩
theorem z_fit:cz0.fitS:=⟨Nat.zero_le _,Nat.zero_le _,Nat.zero_le _⟩
def zP:Prim:=⟨0,0,0,0,0,cz0,0,[],[],⟨0,0,[]⟩,[]⟩
theorem ne_nums (l:List Int):NoE (nums l):=NoE_map (f:=fun x=>[DV.int .i64 x]) (fun _=>⟨trivial,trivial⟩) l
theorem ne_votes (l:List Vote):NoE (votesD l):=NoE_map (f:=Vote.cs) (fun _=>⟨trivial,trivial,trivial,trivial⟩) l
theorem no_nums (l:List Int):NoO (.sl 1 (nums l)):=by simp only [NoO];exact ne_nums l
theorem nc_cert (c:Cert):NoC c.cs:=⟨trivial,trivial,no_nums _,no_nums _,trivial,no_nums _,trivial⟩
theorem ne_certs (l:List Cert):NoE (certsD l):=NoE_map nc_cert l
theorem nc_msg {m:Msg} (h:m.txs=[]):NoC m.cs:=⟨trivial,trivial,trivial,trivial,trivial,trivial,by rw [h];simp only [NoO];exact trivial,trivial,trivial,no_nums _,no_nums _,trivial,trivial,no_nums _,no_nums _,trivial,no_nums _,no_nums _,trivial⟩
theorem ne_msgs:∀ {l:List Msg},(∀ m∈l,m.nice)→NoE (msgsD l)
 | [],_=>trivial
 | m :: r,h=>⟨nc_msg (h m (.head _)).txs,ne_msgs fun x hx=>h x (.tail _ hx)⟩
theorem isl_int {i:Nat} (n:Int):Isl i (.d (.int .i64 n)) (.d (.int .i64 n)) := .flat (flat_int _ _)
theorem isl2_prim (i:Nat) (p:Prim):Isl2 i p.av (p.ai i) := .inr ⟨_,_,rfl,rfl,.cons (isl_int _) (.cons (isl_int _) (.cons (isl_int _) (.cons (isl_int _) (.cons (isl_int _) (.cons (isl_int _) (.cons (isl_int _) (.cons (.sl (ne_nums _)) (.cons (.sl (ne_nums _)) (.cons (isl_int _) (.cons (.sl (ne_nums _)) (.cons (.sl (ne_votes _)) (.cons (isl_int _) (.cons (isl_int _) (.cons (.sl (ne_certs _)) (.cons (.sl (ne_certs _)) .nil)))))))))))))))⟩
theorem isl2_z (i:Nat):Isl2 i (.agg zPrim) (.agg zPrim) := .inr ⟨_,_,rfl,rfl,.cons (isl_int _) (.cons (isl_int _) (.cons (isl_int _) (.cons (isl_int _) (.cons (isl_int _) (.cons (isl_int _) (.cons (isl_int _) (.cons (.flat flat_nils) (.cons (.flat flat_nils) (.cons (isl_int _) (.cons (.flat flat_nils) (.cons (.flat flat_nils) (.cons (isl_int _) (.cons (isl_int _) (.cons (.flat flat_nils) (.cons (.flat flat_nils) .nil)))))))))))))))⟩
theorem wk_r {L:List AB} (a:AV):Wk1 L a a := .inl rfl
theorem l1_isk {i lo n:Nat} {ok:IsK} {L:List AB} (h:L[i]? = some (.isle lo n ok)) (x:DV) (hr:ok.reads x=true):lend1 L (.isl i x) (.d x) := .inr (.inr (.inr (.inr (.inr ⟨i,x,x,lo,n,ok,rfl,h,hr,rfl,.refl _⟩))))
theorem l1_isl {i lo n:Nat} {L:List AB} (h:L[i]? = some (.isle lo n true)) (x:DV):lend1 L (.isl i x) (.d x):=l1_isk h x rfl
theorem lend_ak {i lo n:Nat} {ok:IsK} {L:List AB} (h:L[i]? = some (.isle lo n ok)) (hr:∀ m xs,ok.reads (.sl m xs)=true) (p:Prim):lend2 L (p.ai i) p.av := .inr ⟨_,_,rfl,rfl,lendS_c (l1_int _) (lendS_c (l1_int _) (lendS_c (l1_int _) (lendS_c (l1_int _) (lendS_c (l1_int _) (lendS_c (l1_int _) (lendS_c (l1_int _) (lendS_c (l1_isk h _ (hr _ _)) (lendS_c (l1_isk h _ (hr _ _)) (lendS_c (l1_int _) (lendS_c (l1_isk h _ (hr _ _)) (lendS_c (l1_isk h _ (hr _ _)) (lendS_c (l1_int _) (lendS_c (l1_int _) (lendS_c (l1_isk h _ (hr _ _)) (lendS_c (l1_isk h _ (hr _ _)) lendS_n)))))))))))))))⟩
theorem lend_ai {i lo n:Nat} {L:List AB} (h:L[i]? = some (.isle lo n true)) (p:Prim):lend2 L (p.ai i) p.av:=lend_ak h (fun _ _=>rfl) p
theorem l1_d {L:List AB} (x:DV):lend1 L (.d x) (.d x) := .inl ⟨_,rfl,rfl⟩
theorem lend_av {L:List AB} (p:Prim):lend2 L p.av p.av := .inr ⟨_,_,rfl,rfl,lendS_c (l1_d _) (lendS_c (l1_d _) (lendS_c (l1_d _) (lendS_c (l1_d _) (lendS_c (l1_d _) (lendS_c (l1_d _) (lendS_c (l1_d _) (lendS_c (l1_d _) (lendS_c (l1_d _) (lendS_c (l1_d _) (lendS_c (l1_d _) (lendS_c (l1_d _) (lendS_c (l1_d _) (lendS_c (l1_d _) (lendS_c (l1_d _) (lendS_c (l1_d _) lendS_n)))))))))))))))⟩
theorem c0_ok:cz0.ok:=⟨i64_0,i64_0,⟨Nat.zero_le _,fun _ h=>by cases h⟩,⟨Nat.zero_le _,fun _ h=>by cases h⟩,i64_0,⟨Nat.zero_le _,fun _ h=>by cases h⟩⟩
theorem zP_ok:zP.ok:=⟨c0_ok,Nat.zero_le _,Nat.zero_le _,Nat.zero_le _,⟨i64_0,i64_0,Nat.zero_le _,fun _ h=>by cases h⟩,⟨Nat.zero_le _,fun _ h=>by cases h⟩⟩
theorem eqPI_ok (p:Prim) (h:p.ok) (hd:few p.dag.certs∧∀ c∈p.dag.certs,fewL c) (hl:few p.late∧∀ c∈p.late,fewL c) (hv:few p.votes) (ha:few p.acks) (hm:few p.mine.bats∧few p.mine.pars) (lo n:Nat) :
  ACalls Tryz.prog 45 [p.ai 0,p.av] [.isle lo n true] (fun av L=>av = .d (.bool true)∧L=[.isle lo n true]) :=
 acalls_lend (flat_bool _) ⟨_,_,rfl,lend_ai rfl p,_,_,rfl,lend_av p,rfl⟩ (eqPrim_same p h hd hl hv ha hm)
def zRow (k:Nat):List AV:=[.d (.int .i64 0),.d (.int .i64 0),.d (.int .i64 0),.d (.int .i64 0),.d (.int .i64 0),.d (.int .i64 0),.d (.int .i64 0),.arr (k+1),.arr (k+2),.d (.int .i64 0),.arr (k+3),.arr (k+4),.d (.int .i64 0),.d (.int .i64 0),.arr (k+5),.arr (k+6)]
def zRows:List AB:=[.row 3 1 [] false,.row 3 1 [] false,.row 3 1 [] false,.row 106 3 [] false,.row 47 6 [] false,.row 47 6 [] false]
theorem l1_row {i e n:Nat} {xs:List (List DV)} {sh:Bool} {L:List AB} (h:L[i]? = some (.row e n xs sh)):lend1 L (.arr i) (.d (.sl n xs)) := .inr (.inl ⟨i,e,n,xs,sh,rfl,h,rfl⟩)
theorem eqPZ_ok (lo n:Nat):ACalls Tryz.prog 45 [zP.ai 0,.agg (zRow 0)] (.isle lo n true :: zRows) (fun av L=>av = .d (.bool true)∧L = .isle lo n true :: zRows) :=
 acalls_lend (flat_bool _) ⟨_,_,rfl,lend_ai rfl zP,_,_,rfl,.inr ⟨_,_,rfl,rfl,lendS_c (l1_d _) (lendS_c (l1_d _) (lendS_c (l1_d _) (lendS_c (l1_d _) (lendS_c (l1_d _) (lendS_c (l1_d _) (lendS_c (l1_d _) (lendS_c (l1_row rfl) (lendS_c (l1_row rfl) (lendS_c (l1_d _) (lendS_c (l1_row rfl) (lendS_c (l1_row rfl) (lendS_c (l1_d _) (lendS_c (l1_d _) (lendS_c (l1_row rfl) (lendS_c (l1_row rfl) lendS_n)))))))))))))))⟩,rfl⟩ (eqPrim_same zP zP_ok ⟨Nat.zero_le _,fun _ h=>by cases h⟩ ⟨Nat.zero_le _,fun _ h=>by cases h⟩ (Nat.zero_le _) (Nat.zero_le _) ⟨Nat.zero_le _,Nat.zero_le _⟩)
theorem eqMI_ok (l:List Msg) (hl:few l) (h:∀ m∈l,m.nice) (lo n:Nat):ACalls Tryz.prog 61 [.isl 0 (.sl 18 (msgsD l)),.arr 1] [.isle lo n true,.row 49 18 (msgsD l) false]
  (fun av L=>av = .d (.bool true)∧L=[.isle lo n true,.row 49 18 (msgsD l) false]) :=
 acalls_lend (flat_bool _) ⟨_,_,rfl,.inl (l1_isl rfl _),_,_,rfl,.inl (.inr (.inl ⟨1,_,_,_,_,rfl,rfl,rfl⟩)),rfl⟩ (eqMsgs_same l hl fun m hm=>⟨(h m hm).fine,(h m hm).txs⟩)
theorem zP_fit:zP.fitS:=⟨Nat.zero_le _,Nat.zero_le _,Nat.zero_le _,Nat.zero_le _,⟨Nat.zero_le _,fun _ h=>by cases h⟩,⟨Nat.zero_le _,fun _ h=>by cases h⟩⟩
theorem up_txs (l:List Tx):UpD (.slo 4 (txsD l)) (.sl 4 (txsD l)) := .slo (.refl _)
def Msg.cso (m:Msg):List DV:=[.int .i64 m.kind,.int .i64 m.src,.int .i64 m.dst,.int .i64 m.digest,.int .i64 m.ba,.int .i64 m.bn,.slo 4 (txsD m.txs),.int .i64 m.head.author,.int .i64 m.head.round,.slo 1 (nums m.head.bats),.slo 1 (nums m.head.pars),.int .i64 m.cert.author,.int .i64 m.cert.round,.slo 1 (nums m.cert.bats),.slo 1 (nums m.cert.pars),.int .i64 m.cert.digest,.slo 1 (nums m.cert.sigs),.slo 1 (nums m.digs)]
def Msg.avo (m:Msg):AV := .agg (m.cso.map AV.d)
theorem lend_mo (m:Msg):lend2 [] m.avo m.av := .inr ⟨_,_,rfl,rfl,lendS_c (l1_int _) (lendS_c (l1_int _) (lendS_c (l1_int _) (lendS_c (l1_int _) (lendS_c (l1_int _) (lendS_c (l1_int _) (lendS_c (l1_up (up_txs _)) (lendS_c (l1_int _) (lendS_c (l1_int _) (lendS_c (l1_up (up_nums _)) (lendS_c (l1_up (up_nums _)) (lendS_c (l1_int _) (lendS_c (l1_int _) (lendS_c (l1_up (up_nums _)) (lendS_c (l1_up (up_nums _)) (lendS_c (l1_int _) (lendS_c (l1_up (up_nums _)) (lendS_c (l1_up (up_nums _)) lendS_n)))))))))))))))))⟩
end Go.Proofs.YtolkmjfkkkiboaaGreat
open Go Go.Claim Go.Proofs
namespace Go.Proofs.YtolkmjfkkkiboaaGreat
open Go.Ab Go.RowKit Go.MapKept
attribute [local irreducible] ACalls AW ADraw Into fltB fnear
set_option maxRecDepth 100000
theorem Spoil.newset {lo n:Nat} {w x:World} (h:Spoil lo n w x) (hbl:∀ b,lo≤b→b<lo+n→b<w.heap.size) {b o:Nat} {u:Value} (hb:w.heap.size≤b):Spoil lo n w (x.setCell ⟨b,o,none⟩ u):=by
 refine ⟨h.os,h.tape,h.output,by rw [setCell_size];exact h.size,fun y hy hn=>by rw [setCell_ne (by omega)];exact h.block y hy hn,fun k m v hv => ?_,h.like.trans ?_⟩
 ·refine SL_mono (fun y g1 g2 cur e m hh => ?_) k m v (h.sl _ _ _ hv)
  have:=hbl y g1 g2
  rw [setCell_ne (by omega)];exact hh
 ·intro y c1 e1 m1 k1 k2
  by_cases hx:y=b
  ·subst hx
   exact ⟨_,_,setCell_at k1,by simp,by rw [Array.size_setIfInBounds];exact k2⟩
  ·exact ⟨c1,m1,by rw [setCell_ne hx];exact k1,rfl,k2⟩
theorem Spoil.newsets {lo n:Nat} {w:World} (hbl:∀ b,lo≤b→b<lo+n→b<w.heap.size) {b:Nat} (hb:w.heap.size≤b):∀ (us:List Value) (o:Nat) (x:World),Spoil lo n w x→Spoil lo n w (x.setCells b o us)
 | [],_,_,h=>h
 | u :: r,o,x,h=>Spoil.newsets hbl hb r (o+1) _ (Spoil.newset h hbl hb)
theorem setCells_at {b:Nat} {e:TypeId} {mk:Nat×Nat}:∀ (us:List Value) (o:Nat) (x:World) (cur:Array Value),x.heap[b]? = some (.cells cur e mk)→o+us.length≤cur.size →
  ∃ cur',(x.setCells b o us).heap[b]? = some (.cells cur' e mk)∧cur'.toList=cur.toList.take o++us++cur.toList.drop (o+us.length)
 | [],o,x,cur,h,_=>⟨cur,h,by simp⟩
 | u :: r,o,x,cur,h,hl=>by
   rw [List.length_cons] at hl
   obtain ⟨c',k1,k2⟩:=setCells_at r (o+1) (x.setCell ⟨b,o,none⟩ u) (cur.setIfInBounds o u) (setCell_at h) (by rw [Array.size_setIfInBounds];omega)
   refine ⟨c',k1,?_⟩
   rw [k2,Array.toList_setIfInBounds,List.length_cons,List.drop_set_of_lt (by omega),show o+1+r.length=o+(r.length+1) by omega]
   congr 1
   rw [List.take_add_one,List.getElem?_set_self (by rw [Array.length_toList];omega),List.take_set_of_le (Nat.le_refl _)]
   simp
def newM:List Value:=[.int .i64 (-9),.int .i64 0,.int .i64 0,.int .i64 0,.int .i64 0,.int .i64 0,.slice none 0 0,.int .i64 0,.int .i64 0,.slice none 0 0,.slice none 0 0,.int .i64 0,.int .i64 0,.slice none 0 0,.slice none 0 0,.int .i64 0,.slice none 0 0,.slice none 0 0]
set_option maxHeartbeats 2000000 in
set_option maxRecDepth 100000 in
theorem messages_lit (lo n k:Nat) (w:World) (z0 z1 z2 z3 z4 z5 z7 z8 z11 z12 z15:Int) (v6 v9 v10 v13 v14 v16 v17:Value) (h6:SL lo n w (k+2) 4 v6) (h9:SL lo n w (k+2) 1 v9) (h10:SL lo n w (k+2) 1 v10) (h13:SL lo n w (k+2) 1 v13) (h14:SL lo n w (k+2) 1 v14) (h16:SL lo n w (k+2) 1 v16) (h17:SL lo n w (k+2) 1 v17) (hbl:∀ b,lo≤b→b<lo+n→b<w.heap.size) :
  Calls Tryz.prog 60 #[.slice (some ⟨w.heap.size,0,none⟩) 1 1] (w.alloc (.cells #[.int .i64 z0,.int .i64 z1,.int .i64 z2,.int .i64 z3,.int .i64 z4,.int .i64 z5,v6,.int .i64 z7,.int .i64 z8,v9,v10,.int .i64 z11,.int .i64 z12,v13,v14,.int .i64 z15,v16,v17] 49)) fun e w'=>e = .returned (.tuple #[])∧Spoil lo n w w':=by
 obtain ⟨p6,l6,k6,rfl⟩:=sl_slice h6
 obtain ⟨p9,l9,k9,rfl⟩:=sl_slice h9
 obtain ⟨p10,l10,k10,rfl⟩:=sl_slice h10
 obtain ⟨p13,l13,k13,rfl⟩:=sl_slice h13
 obtain ⟨p14,l14,k14,rfl⟩:=sl_slice h14
 obtain ⟨p16,l16,k16,rfl⟩:=sl_slice h16
 obtain ⟨p17,l17,k17,rfl⟩:=sl_slice h17
 obtain ⟨cs,hcs⟩:∃ cs:Array Value,cs = #[.int .i64 z0,.int .i64 z1,.int .i64 z2,.int .i64 z3,.int .i64 z4,.int .i64 z5,.slice p6 l6 k6,.int .i64 z7,.int .i64 z8,.slice p9 l9 k9,.slice p10 l10 k10,.int .i64 z11,.int .i64 z12,.slice p13 l13 k13,.slice p14 l14 k14,.int .i64 z15,.slice p16 l16 k16,.slice p17 l17 k17]:=⟨_,rfl⟩
 rw [← hcs]
 have hA:=Spoil.keeps hbl (Keeps.alloc w (.cells cs 49))
 have hnew:=heap_alloc_new w (.cells cs 49)
 obtain ⟨w1,hw1⟩:∃ w1,w.alloc (.cells cs 49)=w1:=⟨_,rfl⟩
 have hsz1:w.heap.size<w1.heap.size:=by rw [← hw1];simp
 rw [hw1] at hA hnew ⊢
 have hbl1:∀ b,lo≤b→b<lo+n→b<w1.heap.size:=fun b g1 g2=>Nat.lt_of_lt_of_le (hbl b g1 g2) hA.size
 have hout:¬(lo≤w.heap.size∧w.heap.size<lo+n):=isle_out hbl (Nat.le_refl _)
 replace h6:=hA.sl _ _ _ h6
 replace h9:=hA.sl _ _ _ h9
 replace h10:=hA.sl _ _ _ h10
 replace h13:=hA.sl _ _ _ h13
 replace h14:=hA.sl _ _ _ h14
 replace h16:=hA.sl _ _ _ h16
 replace h17:=hA.sl _ _ _ h17
 go_enter Tryz.func60,Tryz.ntmps60
 go_wp2
 go_loopw [2] (fun i wr=>∃ j:Nat,i = .int .i64 j∧((j=0∧Spoil lo n w1 wr)∨(j=1∧Spoil lo n w wr∧∃ cur,wr.heap[w.heap.size]? = some (.cells cur 49 (0,0))∧cur.toList=newM)))
  (fun i _=>1 - (intOf i).toNat)
 case atStart=>exact ⟨0,rfl,.inl ⟨rfl,Spoil.refl _ _ _⟩⟩
 case round =>
  obtain ⟨j,rfl,⟨rfl,hS⟩|⟨rfl,hS,cur,hcur,hcl⟩⟩:=hrel
  ·have hblr:∀ b,lo≤b→b<lo+n→b<wr.heap.size:=fun b h1 h2=>Nat.lt_of_lt_of_le (hbl1 b h1 h2) hS.size
   have hh0:wr.heap[w.heap.size]? = some (.cells cs 49 (0,0)):=(hS.block _ hsz1 hout).trans hnew
   have c6:wr.cell? ⟨w.heap.size,6,none⟩=some (.slice p6 l6 k6):=by rw [cell_of_row _ _ 6 _ _ _ hh0,hcs];rfl
   have hT0:=hS
   go_wp2_with (go_at_call 120;(with_reducible refine (txs_sp lo n (k+1) _ _ (hT0.sl _ _ _ h6) hblr).mono ?_);rintro e w2 ⟨rfl,hS1⟩;clear c6;have hT1:=hT0.trans hS1;have hbl2:∀ b,lo≤b→b<lo+n→b<w2.heap.size:=fun b h1 h2=>Nat.lt_of_lt_of_le (hbl1 b h1 h2) hT1.size;have hh1:w2.heap[w.heap.size]? = some (.cells cs 49 (0,0)):=(hT1.block _ hsz1 hout).trans hnew;have c7:w2.cell? ⟨w.heap.size,7,none⟩=some (.int .i64 z7):=(by rw [cell_of_row _ _ 7 _ _ _ hh1,hcs];rfl);have c8:w2.cell? ⟨w.heap.size,8,none⟩=some (.int .i64 z8):=(by rw [cell_of_row _ _ 8 _ _ _ hh1,hcs];rfl);have c9:w2.cell? ⟨w.heap.size,9,none⟩=some (.slice p9 l9 k9):=(by rw [cell_of_row _ _ 9 _ _ _ hh1,hcs];rfl);have c10:w2.cell? ⟨w.heap.size,10,none⟩=some (.slice p10 l10 k10):=(by rw [cell_of_row _ _ 10 _ _ _ hh1,hcs];rfl))
   go_wp2_with (go_at_call 47;(with_reducible refine (header_sp lo n (k+1) _ z7 z8 _ _ (hT1.sl _ _ _ h9) (hT1.sl _ _ _ h10) hbl2).mono ?_);rintro e w3 ⟨rfl,hS2⟩;clear c7 c8 c9 c10;have hT2:=hT1.trans hS2;have hbl3:∀ b,lo≤b→b<lo+n→b<w3.heap.size:=fun b h1 h2=>Nat.lt_of_lt_of_le (hbl1 b h1 h2) hT2.size;have hh2:w3.heap[w.heap.size]? = some (.cells cs 49 (0,0)):=(hT2.block _ hsz1 hout).trans hnew;have c11:w3.cell? ⟨w.heap.size,11,none⟩=some (.int .i64 z11):=(by rw [cell_of_row _ _ 11 _ _ _ hh2,hcs];rfl);have c12:w3.cell? ⟨w.heap.size,12,none⟩=some (.int .i64 z12):=(by rw [cell_of_row _ _ 12 _ _ _ hh2,hcs];rfl);have c13:w3.cell? ⟨w.heap.size,13,none⟩=some (.slice p13 l13 k13):=(by rw [cell_of_row _ _ 13 _ _ _ hh2,hcs];rfl);have c14:w3.cell? ⟨w.heap.size,14,none⟩=some (.slice p14 l14 k14):=(by rw [cell_of_row _ _ 14 _ _ _ hh2,hcs];rfl);have c15:w3.cell? ⟨w.heap.size,15,none⟩=some (.int .i64 z15):=(by rw [cell_of_row _ _ 15 _ _ _ hh2,hcs];rfl);have c16:w3.cell? ⟨w.heap.size,16,none⟩=some (.slice p16 l16 k16):=(by rw [cell_of_row _ _ 16 _ _ _ hh2,hcs];rfl))
   go_wp2_with (go_at_call 121;(with_reducible refine (cert_sp lo n (k+1) _ z11 z12 z15 _ _ _ (hT2.sl _ _ _ h13) (hT2.sl _ _ _ h14) (hT2.sl _ _ _ h16) hbl3).mono ?_);rintro e w4 ⟨rfl,hS3⟩;clear c11 c12 c13 c14 c15 c16;have hT3:=hT2.trans hS3;have hbl4:∀ b,lo≤b→b<lo+n→b<w4.heap.size:=fun b h1 h2=>Nat.lt_of_lt_of_le (hbl1 b h1 h2) hT3.size;have hh3:w4.heap[w.heap.size]? = some (.cells cs 49 (0,0)):=(hT3.block _ hsz1 hout).trans hnew;have c17:w4.cell? ⟨w.heap.size,17,none⟩=some (.slice p17 l17 k17):=(by rw [cell_of_row _ _ 17 _ _ _ hh3,hcs];rfl))
   go_wp2_with (go_at_call 50;(with_reducible refine (numbers_sp lo n (k+1) _ _ (hT3.sl _ _ _ h17) hbl4).mono ?_);rintro e w5 ⟨rfl,hS4⟩;clear c17;have hT4:=hT3.trans hS4;have hh4:w5.heap[w.heap.size]? = some (.cells cs 49 (0,0)):=(hT4.block _ hsz1 hout).trans hnew;have c0:w5.cell? ⟨w.heap.size,0,none⟩=some (.int .i64 z0):=(by rw [cell_of_row _ _ 0 _ _ _ hh4,hcs];rfl);have c1:w5.cell? ⟨w.heap.size,1,none⟩=some (.int .i64 z1):=(by rw [cell_of_row _ _ 1 _ _ _ hh4,hcs];rfl);have c2:w5.cell? ⟨w.heap.size,2,none⟩=some (.int .i64 z2):=(by rw [cell_of_row _ _ 2 _ _ _ hh4,hcs];rfl);have c3:w5.cell? ⟨w.heap.size,3,none⟩=some (.int .i64 z3):=(by rw [cell_of_row _ _ 3 _ _ _ hh4,hcs];rfl);have c4:w5.cell? ⟨w.heap.size,4,none⟩=some (.int .i64 z4):=(by rw [cell_of_row _ _ 4 _ _ _ hh4,hcs];rfl);have c5:w5.cell? ⟨w.heap.size,5,none⟩=some (.int .i64 z5):=(by rw [cell_of_row _ _ 5 _ _ _ hh4,hcs];rfl);have c6:w5.cell? ⟨w.heap.size,6,none⟩=some (.slice p6 l6 k6):=(by rw [cell_of_row _ _ 6 _ _ _ hh4,hcs];rfl);have c7:w5.cell? ⟨w.heap.size,7,none⟩=some (.int .i64 z7):=(by rw [cell_of_row _ _ 7 _ _ _ hh4,hcs];rfl);have c8:w5.cell? ⟨w.heap.size,8,none⟩=some (.int .i64 z8):=(by rw [cell_of_row _ _ 8 _ _ _ hh4,hcs];rfl);have c9:w5.cell? ⟨w.heap.size,9,none⟩=some (.slice p9 l9 k9):=(by rw [cell_of_row _ _ 9 _ _ _ hh4,hcs];rfl);have c10:w5.cell? ⟨w.heap.size,10,none⟩=some (.slice p10 l10 k10):=(by rw [cell_of_row _ _ 10 _ _ _ hh4,hcs];rfl);have c11:w5.cell? ⟨w.heap.size,11,none⟩=some (.int .i64 z11):=(by rw [cell_of_row _ _ 11 _ _ _ hh4,hcs];rfl);have c12:w5.cell? ⟨w.heap.size,12,none⟩=some (.int .i64 z12):=(by rw [cell_of_row _ _ 12 _ _ _ hh4,hcs];rfl);have c13:w5.cell? ⟨w.heap.size,13,none⟩=some (.slice p13 l13 k13):=(by rw [cell_of_row _ _ 13 _ _ _ hh4,hcs];rfl);have c14:w5.cell? ⟨w.heap.size,14,none⟩=some (.slice p14 l14 k14):=(by rw [cell_of_row _ _ 14 _ _ _ hh4,hcs];rfl);have c15:w5.cell? ⟨w.heap.size,15,none⟩=some (.int .i64 z15):=(by rw [cell_of_row _ _ 15 _ _ _ hh4,hcs];rfl);have c16:w5.cell? ⟨w.heap.size,16,none⟩=some (.slice p16 l16 k16):=(by rw [cell_of_row _ _ 16 _ _ _ hh4,hcs];rfl);have c17:w5.cell? ⟨w.heap.size,17,none⟩=some (.slice p17 l17 k17):=(by rw [cell_of_row _ _ 17 _ _ _ hh4,hcs];rfl);have f0:w5.frozen? ⟨w.heap.size,0,none⟩=false:=(by unfold World.frozen?;rw [hh4];rfl);have f1:w5.frozen? ⟨w.heap.size,1,none⟩=false:=(by unfold World.frozen?;rw [hh4];rfl);have f2:w5.frozen? ⟨w.heap.size,2,none⟩=false:=(by unfold World.frozen?;rw [hh4];rfl);have f3:w5.frozen? ⟨w.heap.size,3,none⟩=false:=(by unfold World.frozen?;rw [hh4];rfl);have f4:w5.frozen? ⟨w.heap.size,4,none⟩=false:=(by unfold World.frozen?;rw [hh4];rfl);have f5:w5.frozen? ⟨w.heap.size,5,none⟩=false:=(by unfold World.frozen?;rw [hh4];rfl);have f6:w5.frozen? ⟨w.heap.size,6,none⟩=false:=(by unfold World.frozen?;rw [hh4];rfl);have f7:w5.frozen? ⟨w.heap.size,7,none⟩=false:=(by unfold World.frozen?;rw [hh4];rfl);have f8:w5.frozen? ⟨w.heap.size,8,none⟩=false:=(by unfold World.frozen?;rw [hh4];rfl);have f9:w5.frozen? ⟨w.heap.size,9,none⟩=false:=(by unfold World.frozen?;rw [hh4];rfl);have f10:w5.frozen? ⟨w.heap.size,10,none⟩=false:=(by unfold World.frozen?;rw [hh4];rfl);have f11:w5.frozen? ⟨w.heap.size,11,none⟩=false:=(by unfold World.frozen?;rw [hh4];rfl);have f12:w5.frozen? ⟨w.heap.size,12,none⟩=false:=(by unfold World.frozen?;rw [hh4];rfl);have f13:w5.frozen? ⟨w.heap.size,13,none⟩=false:=(by unfold World.frozen?;rw [hh4];rfl);have f14:w5.frozen? ⟨w.heap.size,14,none⟩=false:=(by unfold World.frozen?;rw [hh4];rfl);have f15:w5.frozen? ⟨w.heap.size,15,none⟩=false:=(by unfold World.frozen?;rw [hh4];rfl);have f16:w5.frozen? ⟨w.heap.size,16,none⟩=false:=(by unfold World.frozen?;rw [hh4];rfl);have f17:w5.frozen? ⟨w.heap.size,17,none⟩=false:=(by unfold World.frozen?;rw [hh4];rfl))
   have hg:Spoil lo n w (w5.setCells w.heap.size 0 newM):=Spoil.newsets hbl (Nat.le_refl _) newM 0 w5 (hA.trans hT4)
   have hcz:cs.size=18:=by rw [hcs];rfl
   obtain ⟨c',g1,g2⟩:=setCells_at newM 0 w5 cs hh4 (by rw [hcz];decide)
   have g3:c'.toList=newM:=by
    have hcl:cs.toList.length=18:=by rw [Array.length_toList,hcz]
    rw [g2,List.drop_of_length_le (by rw [hcl];decide)]
    simp
   exact ⟨⟨1,by go_num,.inr ⟨rfl,hg,c',g1,g3⟩⟩,by simp [intOf]⟩
  ·have hblr:∀ b,lo≤b→b<lo+n→b<wr.heap.size:=fun b h1 h2=>Nat.lt_of_lt_of_le (hbl b h1 h2) hS.size
   obtain ⟨i0,hi,hz0,hz1,hz2⟩:=info_parts info18
   go_wp2_with (at_builtin;refine wpList_append_grows _ rfl (.tmp 38) (.tmp 40) 71 rfl 49 i0 (.agg #[.int .i64 0,.int .i64 0,.int .i64 0,.int .i64 0,.int .i64 0,.int .i64 0,.slice none 0 0,.int .i64 0,.int .i64 0,.slice none 0 0,.slice none 0 0,.int .i64 0,.int .i64 0,.slice none 0 0,.slice none 0 0,.int .i64 0,.slice none 0 0,.slice none 0 0]) 18 256 Tryz.underlying71 hi hz0 hz1 hz2 rfl (by decide) (some ⟨w.heap.size,0,none⟩) 1 1 newM rfl (fun h=>by cases h) rfl ?holds ⟨wr.heap.size,0,none⟩ 1 1 [.int .i64 0,.int .i64 0,.int .i64 0,.int .i64 0,.int .i64 0,.int .i64 0,.slice none 0 0,.int .i64 0,.int .i64 0,.slice none 0 0,.slice none 0 0,.int .i64 0,.int .i64 0,.slice none 0 0,.slice none 0 0,.int .i64 0,.slice none 0 0,.slice none 0 0] rfl rfl ?c1 ?c2 (by decide) (by decide) (by decide) ?go)
   case holds =>
    intro b hb j u hu
    cases hb
    rw [add_lit _ rfl,Nat.zero_add]
    refine (Keeps.alloc wr _).cell ?_
    rw [cell_of_row wr _ _ _ _ _ hcur]
    rw [← hcl] at hu
    simpa using hu
   case c1=>intro j u hj;rw [alloc_row];simpa using hj
   case c2=>intro u hu;simp at hu;rcases hu with rfl|rfl|rfl|rfl|rfl|rfl|rfl|rfl|rfl|rfl|rfl|rfl|rfl|rfl|rfl|rfl|rfl|rfl<;>rfl
   case go =>
    intro v' w' _ hgr
    have hkp:Keeps (wr.alloc (.cells #[.int .i64 0,.int .i64 0,.int .i64 0,.int .i64 0,.int .i64 0,.int .i64 0,.slice none 0 0,.int .i64 0,.int .i64 0,.slice none 0 0,.slice none 0 0,.int .i64 0,.int .i64 0,.slice none 0 0,.slice none 0 0,.int .i64 0,.slice none 0 0,.slice none 0 0] 49)) w':=⟨hgr.os,hgr.tape,hgr.output,hgr.size,fun b hb=>hgr.block b hb (fun h=>by cases h)⟩
    have hS2:=Spoil.keeps hblr (Keeps.alloc wr (.cells #[.int .i64 0,.int .i64 0,.int .i64 0,.int .i64 0,.int .i64 0,.int .i64 0,.slice none 0 0,.int .i64 0,.int .i64 0,.slice none 0 0,.slice none 0 0,.int .i64 0,.int .i64 0,.slice none 0 0,.slice none 0 0,.int .i64 0,.slice none 0 0,.slice none 0 0] 49))
    go_wp2
    go_end0
    exact ⟨rfl,(hS.trans hS2).trans (Spoil.keeps (fun b h1 h2=>Nat.lt_of_lt_of_le (hblr b h1 h2) hS2.size) hkp)⟩
end Go.Proofs.YtolkmjfkkkiboaaGreat
namespace Go.Proofs.YtolkmjfkkkiboaaGreat
open Go.Ab Go.RowKit Go.MapKept
attribute [local irreducible] ACalls AW ADraw Into fltB fnear
set_option maxRecDepth 100000
end Go.Proofs.YtolkmjfkkkiboaaGreat
