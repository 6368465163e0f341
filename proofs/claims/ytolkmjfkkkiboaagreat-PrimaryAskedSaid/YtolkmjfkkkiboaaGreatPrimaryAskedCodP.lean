/- PrimaryAsked: contracts. -/
import Derived.Test.YtolkmjfkkkiboaaGreatPrimaryAskedCodO
set_option linter.unusedVariables false
set_option linter.unusedSimpArgs false
namespace Go.Proofs.YtolkmjfkkkiboaaGreat
open Go.Ab Go.RowKit Go.MapKept
attribute [local irreducible] ACalls AW ADraw Into fltB fnear
set_option maxRecDepth 100000
def Msg.from (m:Msg) (p:Prim):Msg:={ m with src:=p.id }
set_option maxHeartbeats 1000000 in
theorem tells20_ok (p:Prim) (out:List Msg) (ho:out.length≤1000000000) (m:Msg):ACalls Tryz.prog 97 [.ptr 0 0,m.av] (p.st out) (fun av L=>av = .tup []∧L=p.st1 (out++[m.from p])):=by
 have hml:=msgsD_length out
 (refine acalls_go ttOk zOk foOk Tryz.func97 rfl Tryz.ntmps97 rfl false rfl ?_);(conv=>whnf)
 refine rdw ?_;repeat' ((with_reducible apply tw)<;>intro _)
 ((with_reducible refine draw_pl ttOk zOk foOk mixedOk pl97x2 ?_ ?_);(focus kernel_rfl);(conv=>whnf))
 refine rdw ?_;repeat' ((with_reducible apply tw)<;>intro _)
 refine ⟨by simp;omega,?_⟩
 conv=>whnf
 refine rdw ?_;repeat' ((with_reducible apply tw)<;>intro _)
 refine ⟨rfl,?_⟩
 rw [Prim.st1,show msgsD (out++[m.from p])=msgsD out++[(m.from p).cs] by simp [msgsD]]
 rfl
def Msg.dstd (m:Msg) (d:Int):Msg:={ m with dst:=d }
theorem told_from (m:Msg) (p:Prim) (d:Int):(m.dstd d).from p=m.told p d:=rfl
theorem riseN_len2 {l:List Int} {n:Nat} (h:riseB l 1 n):l.length≤n:=by
 have:=sub_len (m:=(List.range n).map fun n:Nat=>(n:Int)+1) (rising_nodup h.1) fun x hx=>by
  have:=h.2 x hx
  exact List.mem_map.2 ⟨(x - 1).toNat,by simp;omega,by omega⟩
 simpa using this
end Go.Proofs.YtolkmjfkkkiboaaGreat
namespace Go.Ab
open Go.RowKit
end Go.Ab
namespace Go.Proofs.YtolkmjfkkkiboaaGreat
open Go.Ab Go.RowKit Go.MapKept
attribute [local irreducible] ACalls AW ADraw Into fltB fnear
set_option maxRecDepth 100000
theorem eqVotes_same (l:List Vote) (hl:few l):ACalls Tryz.prog 86 [.d (.sl 3 (votesD l)),.d (.sl 3 (votesD l))] [] (fun av L=>av = .d (.bool true)∧L=[]):=by
 have hcl:=votesD_length l
 unfold few at hl
 (refine acalls_go ttOk zOk foOk Tryz.func86 rfl Tryz.ntmps86 rfl false rfl ?_);(conv=>whnf)
 refine rdw ?_;repeat' ((with_reducible apply tw)<;>intro _)
 ·rename_i hx;exact absurd rfl hx
 ·refine loop_go ttOk zOk foOk (σ:=Nat) (fun k=>([(0,.d (.sl 3 (votesD l))),(1,.d (.sl 3 (votesD l))),(5,.d (.int .i64 k))],[])) (fun k=>k≤l.length) (fun k=>l.length - k) [0,1,5] ?_ ?_
  ·conv=>whnf
   exact ⟨0,rfl,rfl,by omega⟩
  ·intro k hk
   conv=>whnf
   rw [hcl]
   refine rdw ?_;repeat' ((with_reducible apply tw)<;>intro _)
   ·rename_i hkl
    refine Exists.elim (⟨_,List.getElem?_eq_getElem (by omega)⟩:∃ c,l[k]? = some c) fun c hc => ?_
    ((with_reducible refine draw_pl ttOk zOk foOk mixedOk pl86x6 ?_ ?_);(focus kernel_rfl);(conv=>whnf))
    repeat' (first|(first|((with_reducible first|apply rd_intro|apply gd_and);(focus ((conv=>whnf)<;>first|rfl|(intro K hK;(conv=>whnf);first|exact hK|exact z_wrap (by omega) hK)));conv=>whnf)|((with_reducible apply z_wrap);(focus omega);conv=>whnf)|((with_reducible first|apply mt_dec|apply mt_eq|apply mt_ne|apply mt_not|apply mt_any)<;>(intro _;conv=>whnf)))|((with_reducible apply rd_intro);(focus (intro K hK;(conv=>whnf);exact ⟨by omega,c.cs,votesD_at hc,hK⟩));(conv=>whnf))|((with_reducible apply rd_intro);(focus (intro K hK;(conv=>whnf);exact ix_map hc (by first|rfl|omega) hK));(conv=>whnf))|((with_reducible apply rd_intro);(focus (intro K hK;(conv=>whnf);exact ⟨eqVote_ok,hK⟩));(conv=>whnf))|fail)
    ·rename_i hx
     exfalso
     simp at hx
    ·exact ⟨k+1,rfl,rfl,by omega,by omega⟩
   ·exact ⟨rfl,rfl⟩
theorem eqPrim_same (p:Prim) (h:p.ok) (hd:few p.dag.certs∧∀ c∈p.dag.certs,fewL c) (hl:few p.late∧∀ c∈p.late,fewL c) (hv:few p.votes) (ha:few p.acks) (hm:few p.mine.bats∧few p.mine.pars) :
  ACalls Tryz.prog 45 [p.av,p.av] [] (fun av L=>av = .d (.bool true)∧L=[]):=by
 have h1:=eqHeader_ok p.mine p.mine hm
 have h2:=eqNumbers_ok p.acks p.acks ha
 have h3:=eqVotes_same p.votes hv
 have h4:=eqDag_same p.dag hd.1 hd.2
 have h5:=eqCerts_same p.late hl.1 hl.2
 rw [decide_eq_true ⟨rfl,rfl,rfl,rfl⟩] at h1
 rw [decide_eq_true rfl] at h2
 (refine acalls_go ttOk zOk foOk Tryz.func45 rfl Tryz.ntmps45 rfl false rfl ?_);(conv=>whnf)
 repeat' (first|(first|((with_reducible first|apply rd_intro|apply gd_and);(focus ((conv=>whnf)<;>first|rfl|(intro K hK;(conv=>whnf);first|exact hK|exact z_wrap (by omega) hK)));conv=>whnf)|((with_reducible apply z_wrap);(focus omega);conv=>whnf)|((with_reducible first|apply mt_dec|apply mt_eq|apply mt_ne|apply mt_not|apply mt_any)<;>(intro _;conv=>whnf)))|(refine (h1).mono ?_;rintro _ _ ⟨rfl,rfl⟩;(conv=>whnf))|(refine (h2).mono ?_;rintro _ _ ⟨rfl,rfl⟩;(conv=>whnf))|(refine (h3).mono ?_;rintro _ _ ⟨rfl,rfl⟩;(conv=>whnf))|(refine (h4).mono ?_;rintro _ _ ⟨rfl,rfl⟩;(conv=>whnf))|(refine (h5).mono ?_;rintro _ _ ⟨rfl,rfl⟩;(conv=>whnf))|fail)
 all_goals first
  | exact ⟨rfl,rfl⟩
  | (rename_i hx;exact absurd rfl hx)
end Go.Proofs.YtolkmjfkkkiboaaGreat
namespace Go.Proofs.YtolkmjfkkkiboaaGreat
open Go.Ab Go.RowKit Go.MapKept
attribute [local irreducible] ACalls AW ADraw Into fltB fnear
set_option maxRecDepth 100000
theorem eqTxs_e:ACalls Tryz.prog 170 [.d (.sl 4 []),.d (.sl 4 [])] [] (fun av L=>av = .d (.bool true)∧L=[]):=by
 (refine acalls_go ttOk zOk foOk Tryz.func170 rfl Tryz.ntmps170 rfl false rfl ?_);(conv=>whnf)
 refine rdw ?_;repeat' ((with_reducible apply tw)<;>intro _)
 refine loop_go ttOk zOk foOk (σ:=Unit) (fun _=>([(0,.d (.sl 4 [])),(1,.d (.sl 4 [])),(5,.d (.int .i64 0))],[])) (fun _=>True) (fun _=>0) [0,1,5] ?_ ?_
 ·conv=>whnf
  exact ⟨(),rfl,rfl,trivial⟩
 ·intro _ _
  conv=>whnf
  refine rdw ?_;repeat' ((with_reducible apply tw)<;>intro _)
  exact ⟨rfl,rfl⟩
theorem eqBatch_e (a b:Int):ACalls Tryz.prog 118 [.agg [.d (.int .i64 a),.d (.int .i64 b),.d (.sl 4 [])],.agg [.d (.int .i64 a),.d (.int .i64 b),.d (.sl 4 [])]] [] (fun av L=>av = .d (.bool true)∧L=[]):=by
 have h1:=eqTxs_e
 (refine acalls_go ttOk zOk foOk Tryz.func118 rfl Tryz.ntmps118 rfl false rfl ?_);(conv=>whnf)
 refine rdw ?_;repeat' ((with_reducible apply tw)<;>intro _)
 ·(refine (h1).mono ?_;rintro _ _ ⟨rfl,rfl⟩;(conv=>whnf))
  exact ⟨rfl,rfl⟩
 all_goals (rename_i hx;exact absurd rfl hx)
theorem eqMsg_same (m:Msg) (hf:m.fine) (ht:m.txs=[]):ACalls Tryz.prog 59 [m.av,m.av] [] (fun av L=>av = .d (.bool true)∧L=[]):=by
 obtain ⟨kind,src,dst,digest,ba,bn,txs,head,cert,digs⟩:=m
 replace ht:txs=[]:=ht
 subst ht
 have h1:=eqBatch_e ba bn
 have h2:=eqHeader_same head hf.head
 have h3:=eqCert_same cert hf.cert
 have h4:=eqNumbers_ok digs digs hf.digs
 rw [decide_eq_true rfl] at h4
 (refine acalls_go ttOk zOk foOk Tryz.func59 rfl Tryz.ntmps59 rfl false rfl ?_);(conv=>whnf)
 refine rdw ?_;repeat' ((with_reducible apply tw)<;>intro _)
 ·(refine (h1).mono ?_;rintro _ _ ⟨rfl,rfl⟩;(conv=>whnf))
  refine rdw ?_;repeat' ((with_reducible apply tw)<;>intro _)
  ·(refine (h2).mono ?_;rintro _ _ ⟨rfl,rfl⟩;(conv=>whnf))
   refine rdw ?_;repeat' ((with_reducible apply tw)<;>intro _)
   ·(refine (h3).mono ?_;rintro _ _ ⟨rfl,rfl⟩;(conv=>whnf))
    refine rdw ?_;repeat' ((with_reducible apply tw)<;>intro _)
    ·(refine (h4).mono ?_;rintro _ _ ⟨rfl,rfl⟩;(conv=>whnf))
     exact ⟨rfl,rfl⟩
 all_goals (rename_i hx;exact absurd rfl hx)
theorem msgsD_at {l:List Msg} {i:Nat} {m:Msg} (h:l[i]? = some m):(msgsD l)[(i:Int).toNat]? = some m.cs:=by
 rw [Int.toNat_natCast,msgsD,List.getElem?_map,h]
 rfl
theorem eqMsgs_same (l:List Msg) (hl:few l) (h:∀ m∈l,m.fine∧m.txs=[]):ACalls Tryz.prog 61 [.d (.sl 18 (msgsD l)),.d (.sl 18 (msgsD l))] [] (fun av L=>av = .d (.bool true)∧L=[]):=by
 have hcl:=msgsD_length l
 unfold few at hl
 (refine acalls_go ttOk zOk foOk Tryz.func61 rfl Tryz.ntmps61 rfl false rfl ?_);(conv=>whnf)
 refine rdw ?_;repeat' ((with_reducible apply tw)<;>intro _)
 ·rename_i hx;exact absurd rfl hx
 ·refine loop_go ttOk zOk foOk (σ:=Nat) (fun k=>([(0,.d (.sl 18 (msgsD l))),(1,.d (.sl 18 (msgsD l))),(5,.d (.int .i64 k))],[])) (fun k=>k≤l.length) (fun k=>l.length - k) [0,1,5] ?_ ?_
  ·conv=>whnf
   exact ⟨0,rfl,rfl,by omega⟩
  ·intro k hk
   conv=>whnf
   rw [hcl]
   refine rdw ?_;repeat' ((with_reducible apply tw)<;>intro _)
   ·rename_i hkl
    refine Exists.elim (⟨_,List.getElem?_eq_getElem (by omega)⟩:∃ c,l[k]? = some c) fun c hc => ?_
    have hh:=h c (List.mem_of_getElem? hc)
    have h1:=eqMsg_same c hh.1 hh.2
    ((with_reducible refine draw_pl ttOk zOk foOk mixedOk pl61x6 ?_ ?_);(focus kernel_rfl);(conv=>whnf))
    refine rdw ?_;repeat' ((with_reducible apply tw)<;>intro _)
    ((with_reducible apply rd_intro);(focus (intro K hK;(conv=>whnf);exact ⟨by omega,c.cs,msgsD_at hc,hK⟩));(conv=>whnf))
    refine rdw ?_;repeat' ((with_reducible apply tw)<;>intro _)
    ((with_reducible apply rd_intro);(focus (intro K hK;(conv=>whnf);exact ⟨by omega,c.cs,msgsD_at hc,hK⟩));(conv=>whnf))
    refine rdw ?_;repeat' ((with_reducible apply tw)<;>intro _)
    refine h1.mono ?_
    rintro _ _ ⟨rfl,rfl⟩
    conv=>whnf
    refine rdw ?_;repeat' ((with_reducible apply tw)<;>intro _)
    exact ⟨k+1,rfl,rfl,by omega,by omega⟩
   ·exact ⟨rfl,rfl⟩
structure Msg.nice (m:Msg):Prop where
 fine:m.fine
 txs:m.txs=[]
 fit:m.fitS
theorem fit_few {c:Cert} (h:c.fitS):fewL c:=⟨by have:=h.bats;unfold few;omega,by have:=h.pars;unfold few;omega,by have:=h.sigs;unfold few;omega⟩
theorem z_fit:cz0.fitS:=⟨Nat.zero_le _,Nat.zero_le _,Nat.zero_le _⟩
def zP:Prim:=⟨0,0,0,0,0,cz0,0,[],[],⟨0,0,[]⟩,[]⟩
theorem ne_nums (l:List Int):NoE (nums l):=NoE_map (f:=fun x=>[DV.int .i64 x]) (fun _=>⟨trivial,trivial⟩) l
theorem ne_votes (l:List Vote):NoE (votesD l):=NoE_map (f:=Vote.cs) (fun _=>⟨trivial,trivial,trivial,trivial⟩) l
theorem no_nums (l:List Int):NoO (.sl 1 (nums l)):=by simp only [NoO];exact ne_nums l
theorem nc_cert (c:Cert):NoC c.cs:=⟨trivial,trivial,no_nums _,no_nums _,trivial,no_nums _,trivial⟩
theorem ne_certs (l:List Cert):NoE (certsD l):=NoE_map nc_cert l
theorem nc_msg {m:Msg} (h:m.txs=[]):NoC m.cs:=⟨trivial,trivial,trivial,trivial,trivial,trivial,by rw [h];simp only [NoO];exact trivial,trivial,trivial,no_nums _,no_nums _,trivial,trivial,no_nums _,no_nums _,trivial,no_nums _,no_nums _,trivial⟩
theorem ne_msgs:∀ {l:List Msg},(∀ m∈l,m.nice)→NoE (msgsD l)
 | [],_=>trivial
 | m :: r,h=>⟨nc_msg (h m (.head _)).txs,ne_msgs fun x hx=>h x (.tail _ hx)⟩
theorem isl_int {i:Nat} (n:Int):Isl i (.d (.int .i64 n)) (.d (.int .i64 n)) := .flat (flat_int _ _)
theorem isl2_prim (i:Nat) (p:Prim):Isl2 i p.av (p.ai i) := .inr ⟨_,_,rfl,rfl,.cons (isl_int _) (.cons (isl_int _) (.cons (isl_int _) (.cons (isl_int _) (.cons (isl_int _) (.cons (isl_int _) (.cons (isl_int _) (.cons (.sl (ne_nums _)) (.cons (.sl (ne_nums _)) (.cons (isl_int _) (.cons (.sl (ne_nums _)) (.cons (.sl (ne_votes _)) (.cons (isl_int _) (.cons (isl_int _) (.cons (.sl (ne_certs _)) (.cons (.sl (ne_certs _)) .nil)))))))))))))))⟩
theorem isl2_z (i:Nat):Isl2 i (.agg zPrim) (.agg zPrim) := .inr ⟨_,_,rfl,rfl,.cons (isl_int _) (.cons (isl_int _) (.cons (isl_int _) (.cons (isl_int _) (.cons (isl_int _) (.cons (isl_int _) (.cons (isl_int _) (.cons (.flat flat_nils) (.cons (.flat flat_nils) (.cons (isl_int _) (.cons (.flat flat_nils) (.cons (.flat flat_nils) (.cons (isl_int _) (.cons (isl_int _) (.cons (.flat flat_nils) (.cons (.flat flat_nils) .nil)))))))))))))))⟩
theorem wk_r {L:List AB} (a:AV):Wk1 L a a := .inl rfl
theorem l1_isk {i lo n:Nat} {ok:IsK} {L:List AB} (h:L[i]? = some (.isle lo n ok)) (x:DV) (hr:ok.reads x=true):lend1 L (.isl i x) (.d x) := .inr (.inr (.inr (.inr (.inr ⟨i,x,x,lo,n,ok,rfl,h,hr,rfl,.refl _⟩))))
theorem l1_isl {i lo n:Nat} {L:List AB} (h:L[i]? = some (.isle lo n true)) (x:DV):lend1 L (.isl i x) (.d x):=l1_isk h x rfl
theorem lend_ak {i lo n:Nat} {ok:IsK} {L:List AB} (h:L[i]? = some (.isle lo n ok)) (hr:∀ m xs,ok.reads (.sl m xs)=true) (p:Prim):lend2 L (p.ai i) p.av := .inr ⟨_,_,rfl,rfl,lendS_c (l1_int _) (lendS_c (l1_int _) (lendS_c (l1_int _) (lendS_c (l1_int _) (lendS_c (l1_int _) (lendS_c (l1_int _) (lendS_c (l1_int _) (lendS_c (l1_isk h _ (hr _ _)) (lendS_c (l1_isk h _ (hr _ _)) (lendS_c (l1_int _) (lendS_c (l1_isk h _ (hr _ _)) (lendS_c (l1_isk h _ (hr _ _)) (lendS_c (l1_int _) (lendS_c (l1_int _) (lendS_c (l1_isk h _ (hr _ _)) (lendS_c (l1_isk h _ (hr _ _)) lendS_n)))))))))))))))⟩
theorem lend_ai {i lo n:Nat} {L:List AB} (h:L[i]? = some (.isle lo n true)) (p:Prim):lend2 L (p.ai i) p.av:=lend_ak h (fun _ _=>rfl) p
theorem l1_d {L:List AB} (x:DV):lend1 L (.d x) (.d x) := .inl ⟨_,rfl,rfl⟩
theorem lend_av {L:List AB} (p:Prim):lend2 L p.av p.av := .inr ⟨_,_,rfl,rfl,lendS_c (l1_d _) (lendS_c (l1_d _) (lendS_c (l1_d _) (lendS_c (l1_d _) (lendS_c (l1_d _) (lendS_c (l1_d _) (lendS_c (l1_d _) (lendS_c (l1_d _) (lendS_c (l1_d _) (lendS_c (l1_d _) (lendS_c (l1_d _) (lendS_c (l1_d _) (lendS_c (l1_d _) (lendS_c (l1_d _) (lendS_c (l1_d _) (lendS_c (l1_d _) lendS_n)))))))))))))))⟩
theorem c0_ok:cz0.ok:=⟨i64_0,i64_0,⟨Nat.zero_le _,fun _ h=>by cases h⟩,⟨Nat.zero_le _,fun _ h=>by cases h⟩,i64_0,⟨Nat.zero_le _,fun _ h=>by cases h⟩⟩
theorem zP_ok:zP.ok:=⟨c0_ok,Nat.zero_le _,Nat.zero_le _,Nat.zero_le _,⟨i64_0,i64_0,Nat.zero_le _,fun _ h=>by cases h⟩,⟨Nat.zero_le _,fun _ h=>by cases h⟩⟩
theorem eqPI_ok (p:Prim) (h:p.ok) (hd:few p.dag.certs∧∀ c∈p.dag.certs,fewL c) (hl:few p.late∧∀ c∈p.late,fewL c) (hv:few p.votes) (ha:few p.acks) (hm:few p.mine.bats∧few p.mine.pars) (lo n:Nat) :
  ACalls Tryz.prog 45 [p.ai 0,p.av] [.isle lo n true] (fun av L=>av = .d (.bool true)∧L=[.isle lo n true]) :=
 acalls_lend (flat_bool _) ⟨_,_,rfl,lend_ai rfl p,_,_,rfl,lend_av p,rfl⟩ (eqPrim_same p h hd hl hv ha hm)
def zRow (k:Nat):List AV:=[.d (.int .i64 0),.d (.int .i64 0),.d (.int .i64 0),.d (.int .i64 0),.d (.int .i64 0),.d (.int .i64 0),.d (.int .i64 0),.arr (k+1),.arr (k+2),.d (.int .i64 0),.arr (k+3),.arr (k+4),.d (.int .i64 0),.d (.int .i64 0),.arr (k+5),.arr (k+6)]
def zRows:List AB:=[.row 3 1 [] false,.row 3 1 [] false,.row 3 1 [] false,.row 106 3 [] false,.row 47 6 [] false,.row 47 6 [] false]
theorem l1_row {i e n:Nat} {xs:List (List DV)} {sh:Bool} {L:List AB} (h:L[i]? = some (.row e n xs sh)):lend1 L (.arr i) (.d (.sl n xs)) := .inr (.inl ⟨i,e,n,xs,sh,rfl,h,rfl⟩)
theorem eqPZ_ok (lo n:Nat):ACalls Tryz.prog 45 [zP.ai 0,.agg (zRow 0)] (.isle lo n true :: zRows) (fun av L=>av = .d (.bool true)∧L = .isle lo n true :: zRows) :=
 acalls_lend (flat_bool _) ⟨_,_,rfl,lend_ai rfl zP,_,_,rfl,.inr ⟨_,_,rfl,rfl,lendS_c (l1_d _) (lendS_c (l1_d _) (lendS_c (l1_d _) (lendS_c (l1_d _) (lendS_c (l1_d _) (lendS_c (l1_d _) (lendS_c (l1_d _) (lendS_c (l1_row rfl) (lendS_c (l1_row rfl) (lendS_c (l1_d _) (lendS_c (l1_row rfl) (lendS_c (l1_row rfl) (lendS_c (l1_d _) (lendS_c (l1_d _) (lendS_c (l1_row rfl) (lendS_c (l1_row rfl) lendS_n)))))))))))))))⟩,rfl⟩ (eqPrim_same zP zP_ok ⟨Nat.zero_le _,fun _ h=>by cases h⟩ ⟨Nat.zero_le _,fun _ h=>by cases h⟩ (Nat.zero_le _) (Nat.zero_le _) ⟨Nat.zero_le _,Nat.zero_le _⟩)
theorem eqMI_ok (l:List Msg) (hl:few l) (h:∀ m∈l,m.nice) (lo n:Nat):ACalls Tryz.prog 61 [.isl 0 (.sl 18 (msgsD l)),.arr 1] [.isle lo n true,.row 49 18 (msgsD l) false]
  (fun av L=>av = .d (.bool true)∧L=[.isle lo n true,.row 49 18 (msgsD l) false]) :=
 acalls_lend (flat_bool _) ⟨_,_,rfl,.inl (l1_isl rfl _),_,_,rfl,.inl (.inr (.inl ⟨1,_,_,_,_,rfl,rfl,rfl⟩)),rfl⟩ (eqMsgs_same l hl fun m hm=>⟨(h m hm).fine,(h m hm).txs⟩)
theorem zP_fit:zP.fitS:=⟨Nat.zero_le _,Nat.zero_le _,Nat.zero_le _,Nat.zero_le _,⟨Nat.zero_le _,fun _ h=>by cases h⟩,⟨Nat.zero_le _,fun _ h=>by cases h⟩⟩
end Go.Proofs.YtolkmjfkkkiboaaGreat
set_option linter.unusedVariables false
set_option linter.unusedSimpArgs false
namespace Go.Proofs.YtolkmjfkkkiboaaGreat
open Go.Ab Go.RowKit Go.MapKept
attribute [local irreducible] ACalls AW ADraw Into fltB fnear
set_option maxRecDepth 100000
def eqM (a b:Msg):Prop:=a.kind=b.kind∧a.src=b.src∧a.dst=b.dst∧a.digest=b.digest∧a.ba=b.ba∧a.bn=b.bn∧b.txs=[]∧(a.head.author=b.head.author∧a.head.round=b.head.round∧a.head.bats=b.head.bats∧a.head.pars=b.head.pars)∧(a.cert.author=b.cert.author∧a.cert.round=b.cert.round∧a.cert.bats=b.cert.bats∧a.cert.pars=b.cert.pars∧a.cert.digest=b.cert.digest∧a.cert.sigs=b.cert.sigs)∧a.digs=b.digs
def fstC:Code→Code | .seq a _=>a|c=>c
def sndC:Code→Code | .seq _ b=>b|c=>c
def bodyC:Option Code→Code|some c=>c|none => .skip
theorem msg_cut (n:Int) (m:Msg) (rest:Code) (Q:Exit→AF→List AB→Prop) (h:acodeR Tryz.prog tt fo 136 0 rest Q [(5,.ptr 1 0),(13,.agg [.d (.int .i64 m.kind),.d (.int .i64 m.src),.d (.int .i64 m.dst),.d (.int .i64 0),.d (.int .i64 0),.d (.int .i64 0),.d .nils,.d (.int .i64 0),.d (.int .i64 0),.d .nils,.d .nils,.d (.int .i64 0),.d (.int .i64 0),.d .nils,.d .nils,.d (.int .i64 0),.d .nils,.d .nils]),(12,.d (.int .i64 m.dst)),(11,.ptr 0 2),(10,.d (.int .i64 m.src)),(9,.ptr 0 1),(8,.d (.int .i64 m.kind)),(7,.ptr 0 0),(4,.d (.bool false)),(2,.ptr 0 0),(0,m.av),(1,.d (.int .i64 n))] [.cells (m.cs.map AV.d),.cells [.d (.int .i64 m.kind),.d (.int .i64 m.src),.d (.int .i64 m.dst),.d (.int .i64 0),.d (.int .i64 0),.d (.int .i64 0),.d .nils,.d (.int .i64 0),.d (.int .i64 0),.d .nils,.d .nils,.d (.int .i64 0),.d (.int .i64 0),.d .nils,.d .nils,.d (.int .i64 0),.d .nils,.d .nils]]) :
  acodeR Tryz.prog tt fo 136 0 (.seq (fstC (bodyC Tryz.f109.body)) (.seq (fstC (sndC (bodyC Tryz.f109.body))) rest)) Q (argF [m.av,.d (.int .i64 n)] 0) []:=by
 conv=>whnf
 exact h
theorem eqTxs_n (l:List Tx):ACalls Tryz.prog 170 [.d (.sl 4 []),.d (.sl 4 (txsD l))] [] (fun av L=>av = .d (.bool (decide (l.length=0)))∧L=[]):=by
 have hl:(txsD l).length=l.length:=List.length_map ..
 cases l with
 | nil=>exact eqTxs_e
 | cons t r =>
   (refine acalls_go ttOk zOk foOk Tryz.func170 rfl Tryz.ntmps170 rfl false rfl ?_);(conv=>whnf)
   refine rdz ?_;repeat' ((with_reducible apply tw)<;>intro _)
   exact ⟨rfl,rfl⟩
theorem eqCert_ok (a b:Cert) (ha:fewL a):ACalls Tryz.prog 119 [a.av,b.av] [] (fun av L=>av = .d (.bool (decide (a.author=b.author∧a.round=b.round∧a.bats=b.bats∧a.pars=b.pars∧a.digest=b.digest∧a.sigs=b.sigs)))∧L=[]):=by
 have h1:=eqHeader_ok a b ⟨ha.bats,ha.pars⟩
 have h2:=eqNumbers_ok a.sigs b.sigs ha.sigs
 (refine acalls_go ttOk zOk foOk Tryz.func119 rfl Tryz.ntmps119 rfl false rfl ?_);(conv=>whnf)
 refine h1.mono ?_
 rintro _ _ ⟨rfl,rfl⟩
 by_cases k1:a.author=b.author∧a.round=b.round∧a.bats=b.bats∧a.pars=b.pars
 ·rw [decide_eq_true k1]
  obtain ⟨j1,j2,j3,j4⟩:=k1
  conv=>whnf
  refine rdz ?_;repeat' ((with_reducible apply tw)<;>intro _)
  ·rename_i k2
   refine h2.mono ?_
   rintro _ _ ⟨rfl,rfl⟩
   conv=>whnf
   refine ⟨?_,rfl⟩
   by_cases k3:a.sigs=b.sigs
   ·rw [decide_eq_true k3,decide_eq_true ⟨j1,j2,j3,j4,k2,k3⟩]
   ·rw [decide_eq_false k3,decide_eq_false (fun h=>k3 h.2.2.2.2.2)]
  ·rename_i k2
   rw [decide_eq_false (fun h=>k2 h.2.2.2.2.1)]
   exact ⟨rfl,rfl⟩
 ·rw [decide_eq_false k1]
  conv=>whnf
  refine rdz ?_;repeat' ((with_reducible apply tw)<;>intro _)
  rw [decide_eq_false (fun h=>k1 ⟨h.1,h.2.1,h.2.2.1,h.2.2.2.1⟩)]
  exact ⟨rfl,rfl⟩
theorem eqBatch_n (a b:Int) (l:List Tx) (x y:Int):ACalls Tryz.prog 118 [.agg [.d (.int .i64 a),.d (.int .i64 b),.d (.sl 4 [])],.agg [.d (.int .i64 x),.d (.int .i64 y),.d (.sl 4 (txsD l))]] [] (fun av L=>av = .d (.bool (decide (a=x∧b=y∧l=[])))∧L=[]):=by
 have h1:=eqTxs_n l
 (refine acalls_go ttOk zOk foOk Tryz.func118 rfl Tryz.ntmps118 rfl false rfl ?_);(conv=>whnf)
 refine rdz ?_;repeat' ((with_reducible apply tw)<;>intro _)
 ·rename_i k1 k2
  replace k1:a=x:=k1
  replace k2:b=y:=k2
  (refine (h1).mono ?_;rintro _ _ ⟨rfl,rfl⟩;(conv=>whnf))
  refine ⟨?_,rfl⟩
  cases l with
  | nil=>rw [decide_eq_true (p:=a=x∧b=y∧([]:List Tx)=[]) ⟨k1,k2,rfl⟩];rfl
  | cons t r=>rw [decide_eq_false (p:=a=x∧b=y∧t :: r=[]) (fun h=>by cases h.2.2)];rfl
 ·rename_i k1 k2
  replace k2:b≠y:=k2
  rw [decide_eq_false (fun h=>k2 h.2.1)]
  exact ⟨rfl,rfl⟩
 ·rename_i k1
  replace k1:a≠x:=k1
  rw [decide_eq_false (fun h=>k1 h.1)]
  exact ⟨rfl,rfl⟩
open Classical in
theorem eqMsgX_ok (a b:Msg) (fa:a.fine) (ha:a.txs=[]):ACalls Tryz.prog 59 [a.av,b.av] [] (fun av L=>av = .d (.bool (decide (eqM a b)))∧L=[]):=by
 have h1:=eqBatch_n a.ba a.bn b.txs b.ba b.bn
 have h2:=eqHeader_ok a.head b.head ⟨fa.head.bats,fa.head.pars⟩
 have h3:=eqCert_ok a.cert b.cert fa.cert
 have h4:=eqNumbers_ok a.digs b.digs fa.digs
 have e0:a.av=(⟨a.kind,a.src,a.dst,a.digest,a.ba,a.bn,[],a.head,a.cert,a.digs⟩:Msg).av:=by rw [← ha]
 rw [e0]
 (refine acalls_go ttOk zOk foOk Tryz.func59 rfl Tryz.ntmps59 rfl false rfl ?_);(conv=>whnf)
 refine rdz ?_;repeat' ((with_reducible apply tw)<;>intro _)
 ·rename_i k1 k2 k3 k4
  refine h1.mono ?_
  rintro _ _ ⟨rfl,rfl⟩
  by_cases j1:a.ba=b.ba∧a.bn=b.bn∧b.txs=[]
  ·rw [@decide_eq_true _ (_) j1]
   conv=>whnf
   refine rdz ?_;repeat' ((with_reducible apply tw)<;>intro _)
   refine h2.mono ?_
   rintro _ _ ⟨rfl,rfl⟩
   by_cases j2:a.head.author=b.head.author∧a.head.round=b.head.round∧a.head.bats=b.head.bats∧a.head.pars=b.head.pars
   ·rw [@decide_eq_true _ (_) j2]
    conv=>whnf
    refine rdz ?_;repeat' ((with_reducible apply tw)<;>intro _)
    refine h3.mono ?_
    rintro _ _ ⟨rfl,rfl⟩
    by_cases j3:a.cert.author=b.cert.author∧a.cert.round=b.cert.round∧a.cert.bats=b.cert.bats∧a.cert.pars=b.cert.pars∧a.cert.digest=b.cert.digest∧a.cert.sigs=b.cert.sigs
    ·rw [@decide_eq_true _ (_) j3]
     conv=>whnf
     refine rdz ?_;repeat' ((with_reducible apply tw)<;>intro _)
     refine h4.mono ?_
     rintro _ _ ⟨rfl,rfl⟩
     conv=>whnf
     refine ⟨?_,rfl⟩
     congr 2
     rw [decide_eq_decide]
     exact ⟨fun h=>⟨k1,k2,k3,k4,j1.1,j1.2.1,j1.2.2,j2,j3,h⟩,fun h=>h.2.2.2.2.2.2.2.2.2⟩
    ·rw [@decide_eq_false _ (_) j3]
     conv=>whnf
     refine rdz ?_;repeat' ((with_reducible apply tw)<;>intro _)
     rw [decide_eq_false (fun h:eqM a b=>j3 h.2.2.2.2.2.2.2.2.1)]
     exact ⟨rfl,rfl⟩
   ·rw [@decide_eq_false _ (_) j2]
    conv=>whnf
    refine rdz ?_;repeat' ((with_reducible apply tw)<;>intro _)
    rw [decide_eq_false (fun h:eqM a b=>j2 h.2.2.2.2.2.2.2.1)]
    exact ⟨rfl,rfl⟩
  ·rw [@decide_eq_false _ (_) j1]
   conv=>whnf
   refine rdz ?_;repeat' ((with_reducible apply tw)<;>intro _)
   rw [decide_eq_false (fun h:eqM a b=>j1 ⟨h.2.2.2.2.1,h.2.2.2.2.2.1,h.2.2.2.2.2.2.1⟩)]
   exact ⟨rfl,rfl⟩
 ·rename_i k1 k2 k3 k4
  rw [decide_eq_false (fun h:eqM a b=>k4 h.2.2.2.1)]
  exact ⟨rfl,rfl⟩
 ·rename_i k1 k2 k3
  rw [decide_eq_false (fun h:eqM a b=>k3 h.2.2.1)]
  exact ⟨rfl,rfl⟩
 ·rename_i k1 k2
  rw [decide_eq_false (fun h:eqM a b=>k2 h.2.1)]
  exact ⟨rfl,rfl⟩
 ·rename_i k1
  rw [decide_eq_false (fun h:eqM a b=>k1 h.1)]
  exact ⟨rfl,rfl⟩
def xMsg (m:Msg) (g h c d:Bool):Msg:=⟨m.kind,m.src,m.dst,if g then m.digest else 0,0,0,[],if h then m.head else cz0,if c then m.cert else cz0,if d then m.digs else []⟩
theorem xMsg_fine {m:Msg} (hf:m.fine) (g h c d:Bool):(xMsg m g h c d).fine:=by
 refine ⟨Nat.zero_le _,?_,?_,?_⟩
 ·unfold xMsg;cases h;exact fit_few z_fit;exact hf.head
 ·unfold xMsg;cases c;exact fit_few z_fit;exact hf.cert
 ·unfold xMsg;cases d;exact Nat.zero_le _;exact hf.digs
structure okEnds (n:Int) (m:Msg):Prop where
 isn:isN n=true
 src:1≤m.src∧m.src≤n
 dst:1≤m.dst∧m.dst≤n
 ne:m.src≠m.dst
theorem only_iff {m:Msg} (hb:m.kind≠1∧m.kind≠3):eqM (xMsg m (decide (m.kind≤5)) (decide (m.kind=4)) (decide (m.kind=6)) (decide (7≤m.kind))) m↔onlyKind m:=by
 unfold eqM xMsg
 constructor
 ·rintro ⟨-,-,-,e4,e5,e6,e7,e8,e9,e10⟩
  refine ⟨fun h => ?_,fun _=>⟨e5.symm,e6.symm,e7⟩,fun h => ?_,fun h => ?_,fun h => ?_⟩
  ·rw [decide_eq_false (show ¬m.kind≤5 by omega)] at e4;exact e4.symm
  ·rw [decide_eq_false h] at e8;exact ⟨e8.1.symm,e8.2.1.symm,e8.2.2.1.symm,e8.2.2.2.symm⟩
  ·rw [decide_eq_false h] at e9;exact ⟨e9.1.symm,e9.2.1.symm,e9.2.2.1.symm,e9.2.2.2.1.symm,e9.2.2.2.2.1.symm,e9.2.2.2.2.2.symm⟩
  ·rw [decide_eq_false (show ¬7≤m.kind by omega)] at e10;exact e10.symm
 ·intro h
  obtain ⟨b1,b2,b3⟩:=h.bat hb
  refine ⟨rfl,rfl,rfl,?_,b1.symm,b2.symm,b3,?_,?_,?_⟩
  ·by_cases k:m.kind≤5
   ·rw [decide_eq_true k];rfl
   ·rw [decide_eq_false k];exact (h.dig (by omega)).symm
  ·by_cases k:m.kind=4
   ·rw [decide_eq_true k];exact ⟨rfl,rfl,rfl,rfl⟩
   ·obtain ⟨c1,c2,c3,c4⟩:=h.head k
    rw [decide_eq_false k];exact ⟨c1.symm,c2.symm,c3.symm,c4.symm⟩
  ·by_cases k:m.kind=6
   ·rw [decide_eq_true k];exact ⟨rfl,rfl,rfl,rfl,rfl,rfl⟩
   ·obtain ⟨c1,c2,c3,c4,c5,c6⟩:=h.cert k
    rw [decide_eq_false k];exact ⟨c1.symm,c2.symm,c3.symm,c4.symm,c5.symm,c6.symm⟩
  ·by_cases k:7≤m.kind
   ·rw [decide_eq_true k];rfl
   ·rw [decide_eq_false k];exact (h.digs (by omega)).symm
open Classical in
theorem msg_dec {n:Int} {m:Msg} (he:okEnds n m) (hk:okKind n m):decide (onlyKind m)=decide (okMsg n m):=by
 rw [decide_eq_decide]
 exact ⟨fun h=>⟨he.isn,he.src,he.dst,he.ne,hk,h⟩,fun h=>h.only⟩
open Classical in
theorem pageX5 {n:Int} {m:Msg} (hf:m.fine) (hk:m.kind=5):ACalls Tryz.prog 109 [m.av,.d (.int .i64 n)] [] (fun av L=>av = .d (.bool (decide (okMsg n m)))∧L=[]):=by
 have h32:=rMay_ok n
 have h46:=rDigest_ok m.digest
 have heq:=eqMsgX_ok (xMsg m true false false false) m (xMsg_fine hf ..) rfl
 rw [show eqM (xMsg m true false false false) m=onlyKind m from propext (by rw [← only_iff (m:=m) (by omega),hk];exact Iff.rfl)] at heq
 refine acalls_go ttOk zOk foOk Tryz.func109 rfl Tryz.ntmps109 rfl false rfl ?_
 refine msg_cut n m _ _ ?_
 conv=>whnf
 refine rdw ?_;repeat' ((with_reducible apply tw)<;>intro _)
 obtain ⟨b,hb⟩:∃ b,isN n=b:=⟨_,rfl⟩
 rw [hb] at h32
 refine h32.mono ?_
 rintro _ _ ⟨rfl,rfl⟩
 cases b
 ·conv=>whnf
  refine rdw ?_;repeat' ((with_reducible apply tw)<;>intro _)
  exact ⟨by rw [decide_eq_false (fun h:okMsg n m=>by have:=h.isn;rw [hb] at this;cases this)];rfl,rfl⟩
 conv=>whnf
 refine rdw ?_;repeat' ((with_reducible apply tw)<;>intro _)
 ·rename_i k
  replace k:m.src<1:=k
  exact ⟨by rw [decide_eq_false (fun h:okMsg n m=>by have:=h.src;omega)];rfl,rfl⟩
 ·rename_i k0 k
  replace k:m.src>n:=k
  exact ⟨by rw [decide_eq_false (fun h:okMsg n m=>by have:=h.src;omega)];rfl,rfl⟩
 ·rename_i k
  replace k:m.dst<1:=k
  exact ⟨by rw [decide_eq_false (fun h:okMsg n m=>by have:=h.dst;omega)];rfl,rfl⟩
 ·rename_i k
  replace k:m.dst>n:=k
  exact ⟨by rw [decide_eq_false (fun h:okMsg n m=>by have:=h.dst;omega)];rfl,rfl⟩
 ·rename_i k
  replace k:m.src=m.dst:=k
  exact ⟨by rw [decide_eq_false (fun h:okMsg n m=>h.ne k)];rfl,rfl⟩
 all_goals first
  | (exfalso;omega)
  | skip
 have he:okEnds n m:=⟨hb,⟨(show 1≤m.src by have:¬m.src<1:=(by assumption);omega),(show m.src≤n by have:¬m.src>n:=(by assumption);omega)⟩,⟨(show 1≤m.dst by have:¬m.dst<1:=(by assumption);omega),(show m.dst≤n by have:¬m.dst>n:=(by assumption);omega)⟩,by assumption⟩
 refine (h46).mono ?_
 rintro _ _ ⟨rfl,rfl⟩
 by_cases j:1≤m.digest∧m.digest≤65536
 ·rw [decide_eq_true j]
  have hok:okKind n m:=⟨by omega,fun h=>j,fun h=>absurd h (by omega),fun h=>absurd h (by omega),fun h=>absurd h (by omega),fun h=>absurd h (by omega)⟩
  conv=>whnf
  refine rdw ?_;repeat' ((with_reducible apply tw)<;>intro _)
  refine (acalls_nw (avs':=[(xMsg m true false false false).av,m.av]) heq (.cons ?_ (.cons (.refl _) .nil))).mono ?_
  ·refine .agg ?_
   repeat (first|exact .nil|refine .cons (.refl _) ?_|refine .cons (.nils _ (by decide)) ?_)
  rintro _ _ ⟨rfl,rfl⟩
  conv=>whnf
  rw [msg_dec he hok]
  exact ⟨rfl,rfl⟩
 ·rw [decide_eq_false j]
  conv=>whnf
  refine rdw ?_;repeat' ((with_reducible apply tw)<;>intro _)
  exact ⟨by rw [decide_eq_false (fun h:okMsg n m=>j (h.ok.dig (by omega)))];rfl,rfl⟩
open Classical in
theorem pageX4 {n:Int} {m:Msg} (hf:m.fine) (hk:m.kind=4):ACalls Tryz.prog 109 [m.av,.d (.int .i64 n)] [] (fun av L=>av = .d (.bool (decide (okMsg n m)))∧L=[]):=by
 have h32:=rMay_ok n
 have h46:=rDigest_ok m.digest
 have h47:=rHeader_ok m.head hf.head n
 have heq:=eqMsgX_ok (xMsg m true true false false) m (xMsg_fine hf ..) rfl
 rw [show eqM (xMsg m true true false false) m=onlyKind m from propext (by rw [← only_iff (m:=m) (by omega),hk];exact Iff.rfl)] at heq
 refine acalls_go ttOk zOk foOk Tryz.func109 rfl Tryz.ntmps109 rfl false rfl ?_
 refine msg_cut n m _ _ ?_
 conv=>whnf
 refine rdw ?_;repeat' ((with_reducible apply tw)<;>intro _)
 obtain ⟨b,hb⟩:∃ b,isN n=b:=⟨_,rfl⟩
 rw [hb] at h32
 refine h32.mono ?_
 rintro _ _ ⟨rfl,rfl⟩
 cases b
 ·conv=>whnf
  refine rdw ?_;repeat' ((with_reducible apply tw)<;>intro _)
  exact ⟨by rw [decide_eq_false (fun h:okMsg n m=>by have:=h.isn;rw [hb] at this;cases this)];rfl,rfl⟩
 conv=>whnf
 refine rdw ?_;repeat' ((with_reducible apply tw)<;>intro _)
 ·rename_i k
  replace k:m.src<1:=k
  exact ⟨by rw [decide_eq_false (fun h:okMsg n m=>by have:=h.src;omega)];rfl,rfl⟩
 ·rename_i k0 k
  replace k:m.src>n:=k
  exact ⟨by rw [decide_eq_false (fun h:okMsg n m=>by have:=h.src;omega)];rfl,rfl⟩
 ·rename_i k
  replace k:m.dst<1:=k
  exact ⟨by rw [decide_eq_false (fun h:okMsg n m=>by have:=h.dst;omega)];rfl,rfl⟩
 ·rename_i k
  replace k:m.dst>n:=k
  exact ⟨by rw [decide_eq_false (fun h:okMsg n m=>by have:=h.dst;omega)];rfl,rfl⟩
 ·rename_i k
  replace k:m.src=m.dst:=k
  exact ⟨by rw [decide_eq_false (fun h:okMsg n m=>h.ne k)];rfl,rfl⟩
 all_goals first
  | (exfalso;omega)
  | skip
 have he:okEnds n m:=⟨hb,⟨(show 1≤m.src by have:¬m.src<1:=(by assumption);omega),(show m.src≤n by have:¬m.src>n:=(by assumption);omega)⟩,⟨(show 1≤m.dst by have:¬m.dst<1:=(by assumption);omega),(show m.dst≤n by have:¬m.dst>n:=(by assumption);omega)⟩,by assumption⟩
 ((with_reducible refine draw_pl ttOk zOk foOk mixedOk pl109x15 ?_ ?_);(focus kernel_rfl);(conv=>whnf))
 refine rdw ?_;repeat' ((with_reducible apply tw)<;>intro _)
 refine (h46).mono ?_
 rintro _ _ ⟨rfl,rfl⟩
 by_cases j:1≤m.digest∧m.digest≤65536
 ·rw [decide_eq_true j]
  conv=>whnf
  refine rdw ?_;repeat' ((with_reducible apply tw)<;>intro _)
  refine h47.mono ?_
  rintro _ _ ⟨rfl,rfl⟩
  by_cases j2:okHead n m.head
  ·rw [decide_eq_true j2]
   conv=>whnf
   refine rdw ?_;repeat' ((with_reducible apply tw)<;>intro _)
   ·rename_i j3
    replace j3:m.head.author=m.src:=j3
    have hok:okKind n m:=⟨by omega,fun h=>j,fun h=>absurd h (by omega),fun h=>⟨j2,j3⟩,fun h=>absurd h (by omega),fun h=>absurd h (by omega)⟩
    conv=>whnf
    refine rdw ?_;repeat' ((with_reducible apply tw)<;>intro _)
    refine (acalls_nw (avs':=[(xMsg m true true false false).av,m.av]) heq (.cons ?_ (.cons (.refl _) .nil))).mono ?_
    ·refine .agg ?_
     repeat (first|exact .nil|refine .cons (.refl _) ?_|refine .cons (.nils _ (by decide)) ?_)
    rintro _ _ ⟨rfl,rfl⟩
    conv=>whnf
    rw [msg_dec he hok]
    exact ⟨rfl,rfl⟩
   ·rename_i j3
    replace j3:m.head.author≠m.src:=j3
    exact ⟨by rw [decide_eq_false (fun h:okMsg n m=>j3 (h.ok.head hk).2)];rfl,rfl⟩
  ·rw [decide_eq_false j2]
   conv=>whnf
   refine rdw ?_;repeat' ((with_reducible apply tw)<;>intro _)
   exact ⟨by rw [decide_eq_false (fun h:okMsg n m=>j2 (h.ok.head hk).1)];rfl,rfl⟩
 ·rw [decide_eq_false j]
  conv=>whnf
  refine rdw ?_;repeat' ((with_reducible apply tw)<;>intro _)
  exact ⟨by rw [decide_eq_false (fun h:okMsg n m=>j (h.ok.dig (by omega)))];rfl,rfl⟩
theorem isLate20_ok (p:Prim) (out:List Msg) (hl:few p.late) (d:Int):ACalls Tryz.prog 162 [.ptr 0 0,.d (.int .i64 d)] (p.st out) (fun av L=>av = .d (.bool (isLate p.late d))∧L=p.st out):=by
 have hcl:=certsD_length p.late
 unfold few at hl
 (refine acalls_go ttOk zOk foOk Tryz.func162 rfl Tryz.ntmps162 rfl false rfl ?_);(conv=>whnf)
 refine rdw ?_;repeat' ((with_reducible apply tw)<;>intro _)
 refine loop_go ttOk zOk foOk (σ:=Nat) (fun k=>([(0,.ptr 0 0),(1,.d (.int .i64 d)),(5,.d (.int .i64 k))],p.st out)) (fun k=>k≤p.late.length∧isLate (p.late.take k) d=false) (fun k=>p.late.length - k) [0,1,5] ?_ ?_
 ·conv=>whnf
  exact ⟨0,rfl,rfl,Nat.zero_le _,rfl⟩
 ·rintro k ⟨hk,hno⟩
  conv=>whnf
  refine rdw ?_;repeat' ((with_reducible apply tw)<;>intro _)
  ·rename_i k1
   replace k1:(k:Int)<((certsD p.late).length:Int):=k1
   refine Exists.elim (⟨_,List.getElem?_eq_getElem (by omega)⟩:∃ c,p.late[k]? = some c) fun c hc => ?_
   refine ⟨by omega,c.cs,certsD_at hc,?_⟩
   conv=>whnf
   refine rdw ?_;repeat' ((with_reducible apply tw)<;>intro _)
   ·rename_i k2
    replace k2:c.digest=d:=k2
    refine ⟨?_,rfl⟩
    rw [show isLate p.late d=true from by
     rw [isLate,List.any_eq_true]
     exact ⟨c,List.mem_of_getElem? hc,by simpa using k2⟩]
    rfl
   ·rename_i k2
    replace k2:c.digest≠d:=k2
    refine ⟨k+1,rfl,rfl,⟨by omega,?_⟩,by omega⟩
    unfold isLate at hno ⊢
    rw [List.take_add_one,hc,List.any_append,hno]
    simpa using k2
  ·rename_i k1
   replace k1:¬(k:Int)<((certsD p.late).length:Int):=k1
   rw [List.take_of_length_le (by omega)] at hno
   rw [hno]
   exact ⟨rfl,rfl⟩
theorem freshI_snoc (late:List Cert) {l:List Int} {j:Nat} {x:Int} (hx:l[j]? = some x):freshI late (l.take (j+1))=freshI late (l.take j)++(if isLate late x then [] else [x]):=by
 unfold freshI
 rw [List.take_add_one,hx,List.filter_append]
 cases hb:isLate late x<;>simp [List.filter_cons,hb]
set_option maxHeartbeats 4000000 in
theorem lacks20_ok (p:Prim) (out:List Msg) (hv:Valid p.dag) (hl:few p.late) (c:Cert) (hc:c.pars.length≤1000000) (hr:1≤c.round∧c.round≤1099511627776):ACalls Tryz.prog 161 [.ptr 0 0,c.hav] (p.st out) (fun av L=>av = .d (.sl 1 (nums (freshI p.late (lackI p.dag c))))∧L=p.st out):=by
 have hdl:=hv.len
 have hlk:=rLacks_ok p.dag (by unfold few;omega) c (by omega) hr
 rw [lacks_lack hv] at hlk
 obtain ⟨l,hll⟩:∃ l,lackI p.dag c=l:=⟨_,rfl⟩
 rw [hll] at hlk ⊢
 have hlen:l.length≤1000000:=by
  rw [← hll]
  unfold lackI
  split
  ·exact Nat.zero_le _
  ·exact Nat.le_trans (List.length_filter_le ..) hc
 have hnl:=nums_length l
 have hla:=fun x=>isLate20_ok p out hl x
 (refine acalls_go ttOk zOk foOk Tryz.func161 rfl Tryz.ntmps161 rfl false rfl ?_);(conv=>whnf)
 refine rdw ?_;repeat' ((with_reducible apply tw)<;>intro _)
 ((with_reducible refine draw_pl ttOk zOk foOk mixedOk pl161x2 ?_ ?_);(focus kernel_rfl);(conv=>whnf))
 repeat' (first|(first|((with_reducible first|apply rd_intro|apply gd_and);(focus ((conv=>whnf)<;>first|rfl|(intro K hK;(conv=>whnf);first|exact hK|exact z_wrap (by omega) hK)));conv=>whnf)|((with_reducible apply z_wrap);(focus omega);conv=>whnf)|((with_reducible first|apply mt_dec|apply mt_eq|apply mt_ne|apply mt_not|apply mt_any)<;>(intro _;conv=>whnf)))|((with_reducible apply rd_intro);(focus (intro K hK;(conv=>whnf);refine (hlk).mono ?_;rintro _ _ ⟨rfl,rfl⟩;(conv=>whnf);exact hK));(conv=>whnf))|((with_reducible apply gd_and);(focus ((conv=>whnf);intro K hK;(conv=>whnf);refine (hlk).mono ?_;rintro _ _ ⟨rfl,rfl⟩;(conv=>whnf);exact hK));(conv=>whnf))|(refine (hlk).mono ?_;rintro _ _ ⟨rfl,rfl⟩;(conv=>whnf))|fail)
 refine loop_go ttOk zOk foOk (σ:=Nat) (fun j=>([(0,.ptr 0 0),(5,.arr 2),(6,.d (.sl 1 (nums l))),(7,.d (.int .i64 j))],p.st out++[.row 3 1 (nums (freshI p.late (l.take j))) false])) (fun j=>j≤l.length) (fun j=>l.length - j) [0,5,6,7] ?_ ?_
 ·conv=>whnf
  exact ⟨0,rfl,rfl,Nat.zero_le _⟩
 ·intro j hj
  have hfn:(nums (freshI p.late (l.take j))).length≤l.length:=by rw [nums_length];exact Nat.le_trans (List.length_filter_le ..) (List.length_take_le' ..)
  conv=>whnf
  refine rdw ?_;repeat' ((with_reducible apply tw)<;>intro _)
  ·rename_i hjl
   replace hjl:(j:Int)<((nums l).length:Int):=hjl
   refine Exists.elim (⟨_,List.getElem?_eq_getElem (by omega)⟩:∃ x,l[j]? = some x) fun x hx => ?_
   have hsn:=freshI_snoc p.late hx
   refine ⟨by omega,[.int .i64 x],nums_at hx,?_⟩
   conv=>whnf
   refine (hla x).mono ?_
   rintro _ _ ⟨rfl,rfl⟩
   obtain ⟨b,hb⟩:∃ b,isLate p.late x=b:=⟨_,rfl⟩
   rw [hb] at hsn ⊢
   cases b with
   | true =>
     conv=>whnf
     refine rdw ?_;repeat' ((with_reducible apply tw)<;>intro _)
     refine ⟨j+1,rfl,?_,by omega,by omega⟩
     rw [hsn]
     simp
     rfl
   | false =>
     conv=>whnf
     refine rdw ?_;repeat' ((with_reducible apply tw)<;>intro _)
     refine ⟨by omega,[.int .i64 x],nums_at hx,?_⟩
     conv=>whnf
     refine rdw ?_;repeat' ((with_reducible apply tw)<;>intro _)
     refine ⟨by simp;omega,?_⟩
     conv=>whnf
     refine rdw ?_;repeat' ((with_reducible apply tw)<;>intro _)
     refine ⟨j+1,rfl,?_,by omega,by omega⟩
     rw [hsn,if_neg (by decide),← nums_apps]
     rfl
  ·rename_i hjl
   replace hjl:¬(j:Int)<((nums l).length:Int):=hjl
   have:l.take j=l:=List.take_of_length_le (by omega)
   rw [this]
   exact ⟨rfl,rfl⟩
theorem chn_lt {n k:Nat}:k<chn n↔16 * k<n:=by unfold chn;omega
def waSt (p:Prim) (out:List Msg) (kind to:Int) (l:List Int) (j:Bool) (k:Nat):AF×List AB:=([(0,.ptr 0 0),(1,.d (.int .i64 kind)),(2,.d (.int .i64 to)),(3,.d (.sl 1 (nums (l.drop (16 * k)))))],p.sj j (out++((chunksI l).take k).map (wantM p to kind)))
set_option maxHeartbeats 4000000 in
theorem wants20_ok (p:Prim) (out:List Msg) (ho:out.length≤1000000) (kind to:Int) (l:List Int) (hl:l.length≤1000000):ACalls Tryz.prog 160 [.ptr 0 0,.d (.int .i64 kind),.d (.int .i64 to),.d (.sl 1 (nums l))] (p.st out) (fun av L=>av = .tup []∧∃ j,L=p.sj j (if to=p.id then out else out++wantO p to kind l)):=by
 have hcl:=chunksI_length l
 (refine acalls_go ttOk zOk foOk Tryz.func160 rfl Tryz.ntmps160 rfl false rfl ?_);(conv=>whnf)
 refine rdz ?_;repeat' ((with_reducible apply tw)<;>intro _)
 ·rename_i k0
  replace k0:to=p.id:=k0
  rw [if_pos k0]
  exact ⟨rfl,false,rfl⟩
 ·rename_i k0
  replace k0:to≠p.id:=k0
  rw [if_neg k0]
  refine loop_go2 ttOk zOk foOk (σ:=Bool) (ρ:=Nat) (waSt p out kind to l) (fun _ k=>k≤chn l.length) (fun _ k=>chn l.length - k) [0,1,2,3] ?_ ?_
  ·conv=>whnf
   exact ⟨false,0,rfl,by unfold waSt;rw [List.take_zero,List.map_nil,List.append_nil];rfl,Nat.zero_le _⟩
  ·intro j k hk
   have hnl:=nums_length (l.drop (16 * k))
   have hol:(out++((chunksI l).take k).map (wantM p to kind)).length≤100000000:=by
    rw [List.length_append,List.length_map,List.length_take,hcl]
    unfold chn at *
    omega
   cases j
   all_goals
    conv=>whnf
    refine rdz ?_;repeat' ((with_reducible apply tw)<;>intro _)
    ·rename_i k1
     replace k1:((nums (l.drop (16 * k))).length:Int)>0:=k1
     rw [List.length_drop] at hnl
     have hkc:k<chn l.length:=chn_lt.2 (by omega)
     have hx:(chunksI l)[k]? = some (partI l k):=by
      unfold chunksI
      rw [List.getElem?_map,List.getElem?_range hkc]
      rfl
     have hmn:(nums (l.drop (16 * k))).take (min ((nums (l.drop (16 * k))).length:Int) 16).toNat=nums (partI l k):=by
      rw [nums_take',partI]
      congr 1
      by_cases h16:(l.drop (16 * k)).length≤16
      ·rw [List.take_of_length_le h16,List.take_of_length_le (by rw [List.length_drop] at *;omega)]
      ·rw [show (min ((nums (l.drop (16 * k))).length:Int) 16).toNat=16 by rw [List.length_drop] at h16;omega]
     have hdr:(nums (l.drop (16 * k))).drop (min ((nums (l.drop (16 * k))).length:Int) 16).toNat=nums (l.drop (16 * (k+1))):=by
      rw [nums_drop',List.drop_drop]
      congr 1
      by_cases h16:(l.drop (16 * k)).length≤16
      ·rw [List.length_drop] at h16
       rw [List.drop_of_length_le (by omega),List.drop_of_length_le (by omega)]
      ·rw [List.length_drop] at h16
       rw [show (min ((nums (l.drop (16 * k))).length:Int) 16).toNat=16 by omega,show 16 * k+16=16 * (k+1) by omega]
     have hpl:(partI l k).length≤16:=List.length_take_le ..
     have hcn:=copyNumbers_ok (partI l k) (by unfold tiny;omega)
     have hte:=tells20_ok p (out++((chunksI l).take k).map (wantM p to kind)) (by omega) (⟨kind,0,to,0,0,0,[],cz0,cz0,partI l k⟩:Msg)
     refine ⟨by decide,by omega,by omega,?_⟩
     conv=>whnf
     refine rdz ?_;repeat' ((with_reducible apply tw)<;>intro _)
     rw [show (nums (l.drop (16 * k))).take (min ((nums (l.drop (16 * k))).length:Int) 16).toNat=nums (partI l k) from hmn]
     refine hcn.mono ?_
     rintro _ _ ⟨rfl,rfl⟩
     conv=>whnf
     refine rdz ?_;repeat' ((with_reducible apply tw)<;>intro _)
     refine (acalls_nw hte (.cons (.refl _) (.cons (.agg ?_) .nil))).mono ?_
     ·repeat (first|exact .nil|refine .cons (.refl _) ?_|refine .cons (.nils _ (by decide)) ?_)
     ·rintro _ _ ⟨rfl,rfl⟩
      conv=>whnf
      refine rdz ?_;repeat' ((with_reducible apply tw)<;>intro _)
      refine ⟨by omega,by omega,by omega,?_⟩
      conv=>whnf
      refine rdz ?_;repeat' ((with_reducible apply tw)<;>intro _)
      have htk:(nums (l.drop (16 * k))).take ((nums (l.drop (16 * k))).length:Int).toNat=nums (l.drop (16 * k)):=List.take_of_length_le (by omega)
      have hout:out++((chunksI l).take (k+1)).map (wantM p to kind)=out++((chunksI l).take k).map (wantM p to kind)++[(⟨kind,0,to,0,0,0,[],cz0,cz0,partI l k⟩:Msg).from p]:=by
       rw [List.take_add_one,hx]
       simp [wantM,Msg.from]
      refine ⟨true,k+1,?_,?_,(show k+1≤chn l.length by omega),(show chn l.length - (k+1)<chn l.length - k by omega)⟩
      ·unfold waSt
       rw [htk,hdr]
      ·unfold waSt
       rw [hout]
       rfl
    ·rename_i k1
     replace k1:¬((nums (l.drop (16 * k))).length:Int)>0:=k1
     rw [List.length_drop] at hnl
     have:¬k<chn l.length:=fun h=>by have:=chn_lt.1 h;omega
     rw [List.take_of_length_le (by omega)]
     first
      | exact ⟨rfl,false,rfl⟩
      | exact ⟨rfl,true,rfl⟩
end Go.Proofs.YtolkmjfkkkiboaaGreat
