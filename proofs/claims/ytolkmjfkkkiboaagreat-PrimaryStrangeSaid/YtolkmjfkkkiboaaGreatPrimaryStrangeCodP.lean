/- PrimaryStrange: contracts. -/
import Derived.Test.YtolkmjfkkkiboaaGreatPrimaryStrangeCodO
set_option linter.unusedVariables false
set_option linter.unusedSimpArgs false
namespace Go.Proofs.YtolkmjfkkkiboaaGreat
open Go.Ab Go.RowKit Go.MapKept
attribute [local irreducible] ACalls AW ADraw Into fltB fnear
set_option maxRecDepth 100000
def Msg.from (m:Msg) (p:Prim):Msg:={ m with src:=p.id }
set_option maxHeartbeats 1000000 in
theorem tells20_ok (p:Prim) (out:List Msg) (ho:out.length≤1000000000) (m:Msg):ACalls Tryz.prog 97 [.ptr 0 0,m.av] (p.st out) (fun av L=>av = .tup []∧L=p.st1 (out++[m.from p])):=by
 have hml:=msgsD_length out
 (refine acalls_go ttOk zOk foOk Tryz.func97 rfl Tryz.ntmps97 rfl false rfl ?_);(conv=>whnf)
 refine rdw ?_;repeat' ((with_reducible apply tw)<;>intro _)
 ((with_reducible refine draw_pl ttOk zOk foOk mixedOk pl97x2 ?_ ?_);(focus kernel_rfl);(conv=>whnf))
 refine rdw ?_;repeat' ((with_reducible apply tw)<;>intro _)
 refine ⟨by simp;omega,?_⟩
 conv=>whnf
 refine rdw ?_;repeat' ((with_reducible apply tw)<;>intro _)
 refine ⟨rfl,?_⟩
 rw [Prim.st1,show msgsD (out++[m.from p])=msgsD out++[(m.from p).cs] by simp [msgsD]]
 rfl
def Msg.dstd (m:Msg) (d:Int):Msg:={ m with dst:=d }
theorem told_from (m:Msg) (p:Prim) (d:Int):(m.dstd d).from p=m.told p d:=rfl
def alSt (p:Prim) (out:List Msg) (m:Msg) (j:Bool) (s:Nat×Int):AF×List AB:=([(0,.ptr 0 0),(3,.ptr 2 0),(4,.d (.int .i64 ((s.1:Int)+1)))],teB p (out++tellO p m [] s.1) (m.dstd s.2) j)
set_option maxHeartbeats 4000000 in
theorem all20_ok (p:Prim) (hn:0≤p.nodes∧p.nodes≤16) (out:List Msg) (ho:out.length≤100000000) (m:Msg) (hm:m.small):ACalls Tryz.prog 90 [.ptr 0 0,m.av] (p.st out) (fun av L=>av = .tup []∧∃ j,L=p.sj j (out++tellO p m [] p.nodes.toNat)):=by
 (refine acalls_go ttOk zOk foOk Tryz.func90 rfl Tryz.ntmps90 rfl false rfl ?_);(conv=>whnf)
 refine loop_go2 ttOk zOk foOk (σ:=Bool) (ρ:=Nat×Int) (alSt p out m) (fun _ s=>s.1≤p.nodes.toNat) (fun _ s=>p.nodes.toNat - s.1) [0,3,4] ?_ ?_
 ·conv=>whnf
  exact ⟨false,(0,m.dst),rfl,by unfold alSt;rw [show tellO p m [] 0=[] from rfl,List.append_nil];rfl,Nat.zero_le _⟩
 ·rintro j ⟨q,d⟩ hq
  replace hq:q≤p.nodes.toNat:=hq
  have htl:=tellO_len p m [] q
  have hts:=tellO_succ p m [] q
  have hcp:=copyMsg_ok (m.dstd ((q:Int)+1)) ⟨hm.txs,hm.head,hm.cert,hm.digs,hm.sigs⟩
  have hte:=tells20_ok p (out++tellO p m [] q) (by rw [List.length_append];omega) (m.dstd ((q:Int)+1))
  rw [told_from] at hte
  cases j with
  | false =>
    conv=>whnf
    refine rdw ?_;repeat' ((with_reducible apply tw)<;>intro _)
    ·rename_i hle hne
     replace hne:(q:Int)+1≠p.id:=hne
     replace hle:(q:Int)+1≤p.nodes:=hle
     rw [if_pos ⟨hne,by simp⟩] at hts
     rw [List.append_assoc,← hts] at hte
     (refine (hcp).mono ?_;rintro _ _ ⟨rfl,rfl⟩;(conv=>whnf))
     refine rdw ?_;repeat' ((with_reducible apply tw)<;>intro _)
     (refine (hte).mono ?_;rintro _ _ ⟨rfl,rfl⟩;(conv=>whnf))
     refine rdw ?_;repeat' ((with_reducible apply tw)<;>intro _)
     exact ⟨true,(q+1,(q:Int)+1),rfl,rfl,(show q+1≤p.nodes.toNat by omega),(show p.nodes.toNat - (q+1)<p.nodes.toNat - q by omega)⟩
    ·rename_i hle hne
     replace hne:(q:Int)+1=p.id:=hne
     replace hle:(q:Int)+1≤p.nodes:=hle
     rw [if_neg (fun h=>h.1 hne),List.append_nil] at hts
     exact ⟨false,(q+1,d),rfl,by unfold alSt;rw [hts];rfl,(show q+1≤p.nodes.toNat by omega),(show p.nodes.toNat - (q+1)<p.nodes.toNat - q by omega)⟩
    ·rename_i hle
     replace hle:¬(q:Int)+1≤p.nodes:=hle
     obtain rfl:q=p.nodes.toNat:=by omega
     exact ⟨rfl,false,rfl⟩
  | true =>
    conv=>whnf
    refine rdw ?_;repeat' ((with_reducible apply tw)<;>intro _)
    ·rename_i hle hne
     replace hne:(q:Int)+1≠p.id:=hne
     replace hle:(q:Int)+1≤p.nodes:=hle
     rw [if_pos ⟨hne,by simp⟩] at hts
     rw [List.append_assoc,← hts] at hte
     (refine (hcp).mono ?_;rintro _ _ ⟨rfl,rfl⟩;(conv=>whnf))
     refine rdw ?_;repeat' ((with_reducible apply tw)<;>intro _)
     (refine (hte).mono ?_;rintro _ _ ⟨rfl,rfl⟩;(conv=>whnf))
     refine rdw ?_;repeat' ((with_reducible apply tw)<;>intro _)
     exact ⟨true,(q+1,(q:Int)+1),rfl,rfl,(show q+1≤p.nodes.toNat by omega),(show p.nodes.toNat - (q+1)<p.nodes.toNat - q by omega)⟩
    ·rename_i hle hne
     replace hne:(q:Int)+1=p.id:=hne
     replace hle:(q:Int)+1≤p.nodes:=hle
     rw [if_neg (fun h=>h.1 hne),List.append_nil] at hts
     exact ⟨true,(q+1,d),rfl,by unfold alSt;rw [hts];rfl,(show q+1≤p.nodes.toNat by omega),(show p.nodes.toNat - (q+1)<p.nodes.toNat - q by omega)⟩
    ·rename_i hle
     replace hle:¬(q:Int)+1≤p.nodes:=hle
     obtain rfl:q=p.nodes.toNat:=by omega
     exact ⟨rfl,true,rfl⟩
theorem riseN_len2 {l:List Int} {n:Nat} (h:riseB l 1 n):l.length≤n:=by
 have:=sub_len (m:=(List.range n).map fun n:Nat=>(n:Int)+1) (rising_nodup h.1) fun x hx=>by
  have:=h.2 x hx
  exact List.mem_map.2 ⟨(x - 1).toNat,by simp;omega,by omega⟩
 simpa using this
theorem certMsg_small {n:Int} (hn:isN n=true) {c:Cert} (h:okCert n c):(certMsg c).small:=by
 have hnn:=of_decide_eq_true hn
 have h3:=h.head.bats
 have h4:=h.head.pars
 have h6:=h.sigs
 rw [show n=(n.toNat:Int) by omega] at h6
 have h6:=riseN_len2 h6
 have z:(([]:List Int)).length≤3000:=Nat.zero_le _
 exact ⟨Nat.zero_le _,⟨z,z⟩,⟨by show c.bats.length≤3000;omega,by show c.pars.length≤3000;omega,by show c.sigs.length≤3000;omega⟩,z,z⟩
end Go.Proofs.YtolkmjfkkkiboaaGreat
namespace Go.Ab
open Go.RowKit
theorem acalls_nil22 {P:Program} {f:FuncId} {x y:AV} {e n:Nat} (hn:RN e n) {post:AV→List AB→Prop} (h:ACalls P f [.agg [x,y,.arr 0,.arr 1]] [.row e n [] false,.row e n [] false] post):ACalls P f [.agg [x,y,.d .nils,.d .nils]] [] post:=by
 intro c vs hc hL hs hv
 obtain ⟨hs1,hle1⟩:=hs.nilRow hc e n false hn
 obtain ⟨hs2,hle2⟩:=hs1.nilRow hc e n false hn
 simp only [List.length_nil,List.nil_append,List.length_cons,List.cons_append,Nat.zero_add] at hs1 hle1 hs2 hle2
 have hle:=hle1.trans hle2
 have hs3:SimH { c with E0:=Eupd (Eupd c.E0 0 none) 1 none,L0:=[.row e n [] false,.row e n [] false] } (Eupd (Eupd c.E0 0 none) 1 none) [.row e n [] false,.row e n [] false] c.w0 :=
  ⟨hs2.os,hs2.tape,hs2.output,hs2.size,hs2.prot,hs2.blk,hs2.low,hs2.inj,RC.le.refl _,hs2.bx⟩
 refine (h { c with E0:=Eupd (Eupd c.E0 0 none) 1 none,L0:=[.row e n [] false,.row e n [] false] } vs ⟨hc.low,hc.sub,hc.st⟩ rfl hs3 ?_).mono ?_
 ·simp only [VRt,VR,VRs,VD] at hv ⊢
  obtain ⟨u1,r1,h1,⟨us,rfl,w1,s1,h3,o1,v1,w2,s2,h4,o2,v2,w3,s3,h5,o3,rfl,w4,s4,h6,o4,rfl,rfl⟩,rfl⟩:=hv
  refine ⟨_,_,h1,⟨us,rfl,w1,s1,h3,o1,VR.mono hle _ _ v1,w2,s2,h4,o2,VR.mono hle _ _ v2,_,s3,h5,o3,?_,_,_,h6,o4,?_,rfl⟩,rfl⟩
  ·exact ⟨_,rfl,by simp [arRel,Eupd]⟩
  ·exact ⟨_,rfl,by simp [arRel,Eupd]⟩
 ·rintro e w' ⟨v,av,L',E',h1,h2,h3,h4⟩
  refine ⟨v,av,L',E',h1,h2,⟨h3.os,h3.tape,h3.output,h3.size,h3.prot,h3.blk,h3.low,h3.inj,?_,h3.bx⟩,h4⟩
  rw [hL]
  exact hle.trans h3.old
end Go.Ab
namespace Go.Proofs.YtolkmjfkkkiboaaGreat
open Go.Ab Go.RowKit Go.MapKept
attribute [local irreducible] ACalls AW ADraw Into fltB fnear
set_option maxRecDepth 100000
theorem eqVotes_same (l:List Vote) (hl:few l):ACalls Tryz.prog 86 [.d (.sl 3 (votesD l)),.d (.sl 3 (votesD l))] [] (fun av L=>av = .d (.bool true)∧L=[]):=by
 have hcl:=votesD_length l
 unfold few at hl
 (refine acalls_go ttOk zOk foOk Tryz.func86 rfl Tryz.ntmps86 rfl false rfl ?_);(conv=>whnf)
 refine rdw ?_;repeat' ((with_reducible apply tw)<;>intro _)
 ·rename_i hx;exact absurd rfl hx
 ·refine loop_go ttOk zOk foOk (σ:=Nat) (fun k=>([(0,.d (.sl 3 (votesD l))),(1,.d (.sl 3 (votesD l))),(5,.d (.int .i64 k))],[])) (fun k=>k≤l.length) (fun k=>l.length - k) [0,1,5] ?_ ?_
  ·conv=>whnf
   exact ⟨0,rfl,rfl,by omega⟩
  ·intro k hk
   conv=>whnf
   rw [hcl]
   refine rdw ?_;repeat' ((with_reducible apply tw)<;>intro _)
   ·rename_i hkl
    refine Exists.elim (⟨_,List.getElem?_eq_getElem (by omega)⟩:∃ c,l[k]? = some c) fun c hc => ?_
    ((with_reducible refine draw_pl ttOk zOk foOk mixedOk pl86x6 ?_ ?_);(focus kernel_rfl);(conv=>whnf))
    repeat' (first|(first|((with_reducible first|apply rd_intro|apply gd_and);(focus ((conv=>whnf)<;>first|rfl|(intro K hK;(conv=>whnf);first|exact hK|exact z_wrap (by omega) hK)));conv=>whnf)|((with_reducible apply z_wrap);(focus omega);conv=>whnf)|((with_reducible first|apply mt_dec|apply mt_eq|apply mt_ne|apply mt_not|apply mt_any)<;>(intro _;conv=>whnf)))|((with_reducible apply rd_intro);(focus (intro K hK;(conv=>whnf);exact ⟨by omega,c.cs,votesD_at hc,hK⟩));(conv=>whnf))|((with_reducible apply rd_intro);(focus (intro K hK;(conv=>whnf);exact ix_map hc (by first|rfl|omega) hK));(conv=>whnf))|((with_reducible apply rd_intro);(focus (intro K hK;(conv=>whnf);exact ⟨eqVote_ok,hK⟩));(conv=>whnf))|fail)
    ·rename_i hx
     exfalso
     simp at hx
    ·exact ⟨k+1,rfl,rfl,by omega,by omega⟩
   ·exact ⟨rfl,rfl⟩
theorem eqPrim_same (p:Prim) (h:p.ok) (hd:few p.dag.certs∧∀ c∈p.dag.certs,fewL c) (hl:few p.late∧∀ c∈p.late,fewL c) (hv:few p.votes) (ha:few p.acks) (hm:few p.mine.bats∧few p.mine.pars) :
  ACalls Tryz.prog 45 [p.av,p.av] [] (fun av L=>av = .d (.bool true)∧L=[]):=by
 have h1:=eqHeader_ok p.mine p.mine hm
 have h2:=eqNumbers_ok p.acks p.acks ha
 have h3:=eqVotes_same p.votes hv
 have h4:=eqDag_same p.dag hd.1 hd.2
 have h5:=eqCerts_same p.late hl.1 hl.2
 rw [decide_eq_true ⟨rfl,rfl,rfl,rfl⟩] at h1
 rw [decide_eq_true rfl] at h2
 (refine acalls_go ttOk zOk foOk Tryz.func45 rfl Tryz.ntmps45 rfl false rfl ?_);(conv=>whnf)
 repeat' (first|(first|((with_reducible first|apply rd_intro|apply gd_and);(focus ((conv=>whnf)<;>first|rfl|(intro K hK;(conv=>whnf);first|exact hK|exact z_wrap (by omega) hK)));conv=>whnf)|((with_reducible apply z_wrap);(focus omega);conv=>whnf)|((with_reducible first|apply mt_dec|apply mt_eq|apply mt_ne|apply mt_not|apply mt_any)<;>(intro _;conv=>whnf)))|(refine (h1).mono ?_;rintro _ _ ⟨rfl,rfl⟩;(conv=>whnf))|(refine (h2).mono ?_;rintro _ _ ⟨rfl,rfl⟩;(conv=>whnf))|(refine (h3).mono ?_;rintro _ _ ⟨rfl,rfl⟩;(conv=>whnf))|(refine (h4).mono ?_;rintro _ _ ⟨rfl,rfl⟩;(conv=>whnf))|(refine (h5).mono ?_;rintro _ _ ⟨rfl,rfl⟩;(conv=>whnf))|fail)
 all_goals first
  | exact ⟨rfl,rfl⟩
  | (rename_i hx;exact absurd rfl hx)
theorem spoilH_ok (a r:Int) (xs ys:List Int) (hx:xs.length≤8000000000) (hy:ys.length≤8000000000):ACalls Tryz.prog 47 [.agg [.d (.int .i64 a),.d (.int .i64 r),.arr 0,.arr 1]] [.row 3 1 (nums xs) false,.row 3 1 (nums ys) false] (fun av L=>av = .tup []∧L=[.dead,.dead]):=by
 have h1:=spoil_ok xs hx
 have h2:=spoil_ok ys hy
 (refine acalls_go ttOk zOk foOk Tryz.func47 rfl Tryz.ntmps47 rfl true rfl ?_);(conv=>whnf)
 refine rdw ?_;repeat' ((with_reducible apply tw)<;>intro _)
 (refine Or.inr ?_;(conv=>whnf))
 (refine (h1).mono ?_;rintro _ _ ⟨rfl,rfl⟩;(conv=>whnf))
 refine rdw ?_;repeat' ((with_reducible apply tw)<;>intro _)
 (refine Or.inr ?_;(conv=>whnf))
 (refine (h2).mono ?_;rintro _ _ ⟨rfl,rfl⟩;(conv=>whnf))
 refine rdw ?_;repeat' ((with_reducible apply tw)<;>intro _)
 exact ⟨rfl,rfl⟩
theorem spoilH_nil:ACalls Tryz.prog 47 [.agg [.d (.int .i64 0),.d (.int .i64 0),.d .nils,.d .nils]] [] (fun av L=>av = .tup []∧L=[.dead,.dead]) :=
 acalls_nil22 (by exact ⟨by decide,rfl⟩) (spoilH_ok 0 0 [] [] (Nat.zero_le _) (Nat.zero_le _))
theorem eqHeaderN:ACalls Tryz.prog 35 [.agg [.d (.int .i64 0),.d (.int .i64 0),.d .nils,.d .nils],.agg [.d (.int .i64 0),.d (.int .i64 0),.d .nils,.d .nils]] [] (fun av L=>av = .d (.bool true)∧L=[]):=by
 have h1:=eqHeader_ok cz0 cz0 ⟨Nat.zero_le _,Nat.zero_le _⟩
 rw [decide_eq_true ⟨rfl,rfl,rfl,rfl⟩] at h1
 have e:NW (.agg [.d (.int .i64 0),.d (.int .i64 0),.d .nils,.d .nils]) cz0.hav := .agg (.cons (.refl _) (.cons (.refl _) (.cons (.nils 1 (by decide)) (.cons (.nils 1 (by decide)) .nil))))
 exact acalls_nw h1 (.cons e (.cons e .nil))
theorem eqHeaderA (h:Cert) (hf:few h.bats∧few h.pars):ACalls Tryz.prog 35 [.agg [.d (.int .i64 h.author),.d (.int .i64 h.round),.arr 0,.arr 1],h.hav] [.row 3 1 (nums h.bats) false,.row 3 1 (nums h.pars) false]
  (fun av L=>av = .d (.bool true)∧L=[.row 3 1 (nums h.bats) false,.row 3 1 (nums h.pars) false]):=by
 have h1:=eqHeader_ok h h hf
 rw [decide_eq_true ⟨rfl,rfl,rfl,rfl⟩] at h1
 exact acalls_lend (flat_bool _) ⟨_,_,rfl,.inr ⟨_,_,rfl,rfl,_,_,rfl,.inl ⟨_,rfl,rfl⟩,_,_,rfl,.inl ⟨_,rfl,rfl⟩,_,_,rfl,.inr (.inl ⟨0,_,_,_,_,rfl,rfl,rfl⟩),_,_,rfl,.inr (.inl ⟨1,_,_,_,_,rfl,rfl,rfl⟩),rfl⟩,
  _,_,rfl,.inr ⟨_,_,rfl,rfl,_,_,rfl,.inl ⟨_,rfl,rfl⟩,_,_,rfl,.inl ⟨_,rfl,rfl⟩,_,_,rfl,.inl ⟨_,rfl,rfl⟩,_,_,rfl,.inl ⟨_,rfl,rfl⟩,rfl⟩,rfl⟩ h1
end Go.Proofs.YtolkmjfkkkiboaaGreat
namespace Go.Proofs.YtolkmjfkkkiboaaGreat
open Go.Ab Go.RowKit Go.MapKept
attribute [local irreducible] ACalls AW ADraw Into fltB fnear
set_option maxRecDepth 100000
theorem eqTxs_e:ACalls Tryz.prog 170 [.d (.sl 4 []),.d (.sl 4 [])] [] (fun av L=>av = .d (.bool true)∧L=[]):=by
 (refine acalls_go ttOk zOk foOk Tryz.func170 rfl Tryz.ntmps170 rfl false rfl ?_);(conv=>whnf)
 refine rdw ?_;repeat' ((with_reducible apply tw)<;>intro _)
 refine loop_go ttOk zOk foOk (σ:=Unit) (fun _=>([(0,.d (.sl 4 [])),(1,.d (.sl 4 [])),(5,.d (.int .i64 0))],[])) (fun _=>True) (fun _=>0) [0,1,5] ?_ ?_
 ·conv=>whnf
  exact ⟨(),rfl,rfl,trivial⟩
 ·intro _ _
  conv=>whnf
  refine rdw ?_;repeat' ((with_reducible apply tw)<;>intro _)
  exact ⟨rfl,rfl⟩
theorem eqBatch_e (a b:Int):ACalls Tryz.prog 118 [.agg [.d (.int .i64 a),.d (.int .i64 b),.d (.sl 4 [])],.agg [.d (.int .i64 a),.d (.int .i64 b),.d (.sl 4 [])]] [] (fun av L=>av = .d (.bool true)∧L=[]):=by
 have h1:=eqTxs_e
 (refine acalls_go ttOk zOk foOk Tryz.func118 rfl Tryz.ntmps118 rfl false rfl ?_);(conv=>whnf)
 refine rdw ?_;repeat' ((with_reducible apply tw)<;>intro _)
 ·(refine (h1).mono ?_;rintro _ _ ⟨rfl,rfl⟩;(conv=>whnf))
  exact ⟨rfl,rfl⟩
 all_goals (rename_i hx;exact absurd rfl hx)
theorem eqMsg_same (m:Msg) (hf:m.fine) (ht:m.txs=[]):ACalls Tryz.prog 59 [m.av,m.av] [] (fun av L=>av = .d (.bool true)∧L=[]):=by
 obtain ⟨kind,src,dst,digest,ba,bn,txs,head,cert,digs⟩:=m
 replace ht:txs=[]:=ht
 subst ht
 have h1:=eqBatch_e ba bn
 have h2:=eqHeader_same head hf.head
 have h3:=eqCert_same cert hf.cert
 have h4:=eqNumbers_ok digs digs hf.digs
 rw [decide_eq_true rfl] at h4
 (refine acalls_go ttOk zOk foOk Tryz.func59 rfl Tryz.ntmps59 rfl false rfl ?_);(conv=>whnf)
 refine rdw ?_;repeat' ((with_reducible apply tw)<;>intro _)
 ·(refine (h1).mono ?_;rintro _ _ ⟨rfl,rfl⟩;(conv=>whnf))
  refine rdw ?_;repeat' ((with_reducible apply tw)<;>intro _)
  ·(refine (h2).mono ?_;rintro _ _ ⟨rfl,rfl⟩;(conv=>whnf))
   refine rdw ?_;repeat' ((with_reducible apply tw)<;>intro _)
   ·(refine (h3).mono ?_;rintro _ _ ⟨rfl,rfl⟩;(conv=>whnf))
    refine rdw ?_;repeat' ((with_reducible apply tw)<;>intro _)
    ·(refine (h4).mono ?_;rintro _ _ ⟨rfl,rfl⟩;(conv=>whnf))
     exact ⟨rfl,rfl⟩
 all_goals (rename_i hx;exact absurd rfl hx)
theorem msgsD_at {l:List Msg} {i:Nat} {m:Msg} (h:l[i]? = some m):(msgsD l)[(i:Int).toNat]? = some m.cs:=by
 rw [Int.toNat_natCast,msgsD,List.getElem?_map,h]
 rfl
theorem eqMsgs_same (l:List Msg) (hl:few l) (h:∀ m∈l,m.fine∧m.txs=[]):ACalls Tryz.prog 61 [.d (.sl 18 (msgsD l)),.d (.sl 18 (msgsD l))] [] (fun av L=>av = .d (.bool true)∧L=[]):=by
 have hcl:=msgsD_length l
 unfold few at hl
 (refine acalls_go ttOk zOk foOk Tryz.func61 rfl Tryz.ntmps61 rfl false rfl ?_);(conv=>whnf)
 refine rdw ?_;repeat' ((with_reducible apply tw)<;>intro _)
 ·rename_i hx;exact absurd rfl hx
 ·refine loop_go ttOk zOk foOk (σ:=Nat) (fun k=>([(0,.d (.sl 18 (msgsD l))),(1,.d (.sl 18 (msgsD l))),(5,.d (.int .i64 k))],[])) (fun k=>k≤l.length) (fun k=>l.length - k) [0,1,5] ?_ ?_
  ·conv=>whnf
   exact ⟨0,rfl,rfl,by omega⟩
  ·intro k hk
   conv=>whnf
   rw [hcl]
   refine rdw ?_;repeat' ((with_reducible apply tw)<;>intro _)
   ·rename_i hkl
    refine Exists.elim (⟨_,List.getElem?_eq_getElem (by omega)⟩:∃ c,l[k]? = some c) fun c hc => ?_
    have hh:=h c (List.mem_of_getElem? hc)
    have h1:=eqMsg_same c hh.1 hh.2
    ((with_reducible refine draw_pl ttOk zOk foOk mixedOk pl61x6 ?_ ?_);(focus kernel_rfl);(conv=>whnf))
    refine rdw ?_;repeat' ((with_reducible apply tw)<;>intro _)
    ((with_reducible apply rd_intro);(focus (intro K hK;(conv=>whnf);exact ⟨by omega,c.cs,msgsD_at hc,hK⟩));(conv=>whnf))
    refine rdw ?_;repeat' ((with_reducible apply tw)<;>intro _)
    ((with_reducible apply rd_intro);(focus (intro K hK;(conv=>whnf);exact ⟨by omega,c.cs,msgsD_at hc,hK⟩));(conv=>whnf))
    refine rdw ?_;repeat' ((with_reducible apply tw)<;>intro _)
    refine h1.mono ?_
    rintro _ _ ⟨rfl,rfl⟩
    conv=>whnf
    refine rdw ?_;repeat' ((with_reducible apply tw)<;>intro _)
    exact ⟨k+1,rfl,rfl,by omega,by omega⟩
   ·exact ⟨rfl,rfl⟩
structure Msg.nice (m:Msg):Prop where
 fine:m.fine
 txs:m.txs=[]
 fit:m.fitS
theorem tellO_nice {p:Prim} {m:Msg} {no:List Int} {k:Nat} (h:m.nice):∀ x∈tellO p m no k,x.nice:=by
 intro x hx
 obtain ⟨t,_,rfl⟩:=List.mem_map.1 hx
 exact ⟨⟨h.fine.txs,h.fine.head,h.fine.cert,h.fine.digs⟩,h.txs,⟨h.fit.txs,h.fit.head,h.fit.cert,h.fit.digs⟩⟩
theorem fit_few {c:Cert} (h:c.fitS):fewL c:=⟨by have:=h.bats;unfold few;omega,by have:=h.pars;unfold few;omega,by have:=h.sigs;unfold few;omega⟩
theorem z_fit:cz0.fitS:=⟨Nat.zero_le _,Nat.zero_le _,Nat.zero_le _⟩
theorem askMsg_nice {q:Prim} (h:q.mine.fitS):(askMsg q).nice:=⟨⟨Nat.zero_le _,fit_few h,fit_few z_fit,Nat.zero_le _⟩,rfl,⟨Nat.zero_le _,h,z_fit,Nat.zero_le _⟩⟩
theorem certMsg_nice {c:Cert} (h:c.fitS):(certMsg c).nice:=⟨⟨Nat.zero_le _,fit_few z_fit,fit_few h,Nat.zero_le _⟩,rfl,⟨Nat.zero_le _,z_fit,h,Nat.zero_le _⟩⟩
def zP:Prim:=⟨0,0,0,0,0,cz0,0,[],[],⟨0,0,[]⟩,[]⟩
theorem ne_nums (l:List Int):NoE (nums l):=NoE_map (f:=fun x=>[DV.int .i64 x]) (fun _=>⟨trivial,trivial⟩) l
theorem ne_votes (l:List Vote):NoE (votesD l):=NoE_map (f:=Vote.cs) (fun _=>⟨trivial,trivial,trivial,trivial⟩) l
theorem no_nums (l:List Int):NoO (.sl 1 (nums l)):=by simp only [NoO];exact ne_nums l
theorem nc_cert (c:Cert):NoC c.cs:=⟨trivial,trivial,no_nums _,no_nums _,trivial,no_nums _,trivial⟩
theorem ne_certs (l:List Cert):NoE (certsD l):=NoE_map nc_cert l
theorem nc_msg {m:Msg} (h:m.txs=[]):NoC m.cs:=⟨trivial,trivial,trivial,trivial,trivial,trivial,by rw [h];simp only [NoO];exact trivial,trivial,trivial,no_nums _,no_nums _,trivial,trivial,no_nums _,no_nums _,trivial,no_nums _,no_nums _,trivial⟩
theorem ne_msgs:∀ {l:List Msg},(∀ m∈l,m.nice)→NoE (msgsD l)
 | [],_=>trivial
 | m :: r,h=>⟨nc_msg (h m (.head _)).txs,ne_msgs fun x hx=>h x (.tail _ hx)⟩
theorem isl_int {i:Nat} (n:Int):Isl i (.d (.int .i64 n)) (.d (.int .i64 n)) := .flat (flat_int _ _)
theorem isl2_prim (i:Nat) (p:Prim):Isl2 i p.av (p.ai i) := .inr ⟨_,_,rfl,rfl,.cons (isl_int _) (.cons (isl_int _) (.cons (isl_int _) (.cons (isl_int _) (.cons (isl_int _) (.cons (isl_int _) (.cons (isl_int _) (.cons (.sl (ne_nums _)) (.cons (.sl (ne_nums _)) (.cons (isl_int _) (.cons (.sl (ne_nums _)) (.cons (.sl (ne_votes _)) (.cons (isl_int _) (.cons (isl_int _) (.cons (.sl (ne_certs _)) (.cons (.sl (ne_certs _)) .nil)))))))))))))))⟩
theorem isl2_z (i:Nat):Isl2 i (.agg zPrim) (.agg zPrim) := .inr ⟨_,_,rfl,rfl,.cons (isl_int _) (.cons (isl_int _) (.cons (isl_int _) (.cons (isl_int _) (.cons (isl_int _) (.cons (isl_int _) (.cons (isl_int _) (.cons (.flat flat_nils) (.cons (.flat flat_nils) (.cons (isl_int _) (.cons (.flat flat_nils) (.cons (.flat flat_nils) (.cons (isl_int _) (.cons (isl_int _) (.cons (.flat flat_nils) (.cons (.flat flat_nils) .nil)))))))))))))))⟩
theorem wk_r {L:List AB} (a:AV):Wk1 L a a := .inl rfl
theorem l1_isk {i lo n:Nat} {ok:IsK} {L:List AB} (h:L[i]? = some (.isle lo n ok)) (x:DV) (hr:ok.reads x=true):lend1 L (.isl i x) (.d x) := .inr (.inr (.inr (.inr (.inr ⟨i,x,x,lo,n,ok,rfl,h,hr,rfl,.refl _⟩))))
theorem lend_ak {i lo n:Nat} {ok:IsK} {L:List AB} (h:L[i]? = some (.isle lo n ok)) (hr:∀ m xs,ok.reads (.sl m xs)=true) (p:Prim):lend2 L (p.ai i) p.av := .inr ⟨_,_,rfl,rfl,lendS_c (l1_int _) (lendS_c (l1_int _) (lendS_c (l1_int _) (lendS_c (l1_int _) (lendS_c (l1_int _) (lendS_c (l1_int _) (lendS_c (l1_int _) (lendS_c (l1_isk h _ (hr _ _)) (lendS_c (l1_isk h _ (hr _ _)) (lendS_c (l1_int _) (lendS_c (l1_isk h _ (hr _ _)) (lendS_c (l1_isk h _ (hr _ _)) (lendS_c (l1_int _) (lendS_c (l1_int _) (lendS_c (l1_isk h _ (hr _ _)) (lendS_c (l1_isk h _ (hr _ _)) lendS_n)))))))))))))))⟩
theorem l1_d {L:List AB} (x:DV):lend1 L (.d x) (.d x) := .inl ⟨_,rfl,rfl⟩
theorem lend_av {L:List AB} (p:Prim):lend2 L p.av p.av := .inr ⟨_,_,rfl,rfl,lendS_c (l1_d _) (lendS_c (l1_d _) (lendS_c (l1_d _) (lendS_c (l1_d _) (lendS_c (l1_d _) (lendS_c (l1_d _) (lendS_c (l1_d _) (lendS_c (l1_d _) (lendS_c (l1_d _) (lendS_c (l1_d _) (lendS_c (l1_d _) (lendS_c (l1_d _) (lendS_c (l1_d _) (lendS_c (l1_d _) (lendS_c (l1_d _) (lendS_c (l1_d _) lendS_n)))))))))))))))⟩
theorem c0_ok:cz0.ok:=⟨i64_0,i64_0,⟨Nat.zero_le _,fun _ h=>by cases h⟩,⟨Nat.zero_le _,fun _ h=>by cases h⟩,i64_0,⟨Nat.zero_le _,fun _ h=>by cases h⟩⟩
theorem zP_ok:zP.ok:=⟨c0_ok,Nat.zero_le _,Nat.zero_le _,Nat.zero_le _,⟨i64_0,i64_0,Nat.zero_le _,fun _ h=>by cases h⟩,⟨Nat.zero_le _,fun _ h=>by cases h⟩⟩
def zRow (k:Nat):List AV:=[.d (.int .i64 0),.d (.int .i64 0),.d (.int .i64 0),.d (.int .i64 0),.d (.int .i64 0),.d (.int .i64 0),.d (.int .i64 0),.arr (k+1),.arr (k+2),.d (.int .i64 0),.arr (k+3),.arr (k+4),.d (.int .i64 0),.d (.int .i64 0),.arr (k+5),.arr (k+6)]
def zRows:List AB:=[.row 3 1 [] false,.row 3 1 [] false,.row 3 1 [] false,.row 106 3 [] false,.row 47 6 [] false,.row 47 6 [] false]
theorem l1_row {i e n:Nat} {xs:List (List DV)} {sh:Bool} {L:List AB} (h:L[i]? = some (.row e n xs sh)):lend1 L (.arr i) (.d (.sl n xs)) := .inr (.inl ⟨i,e,n,xs,sh,rfl,h,rfl⟩)
theorem zP_fit:zP.fitS:=⟨Nat.zero_le _,Nat.zero_le _,Nat.zero_le _,Nat.zero_le _,⟨Nat.zero_le _,fun _ h=>by cases h⟩,⟨Nat.zero_le _,fun _ h=>by cases h⟩⟩
end Go.Proofs.YtolkmjfkkkiboaaGreat
set_option linter.unusedVariables false
set_option linter.unusedSimpArgs false
namespace Go.Proofs.YtolkmjfkkkiboaaGreat
open Go.Ab Go.RowKit Go.MapKept
attribute [local irreducible] ACalls AW ADraw Into fltB fnear
set_option maxRecDepth 100000
theorem pass_allN (d:Dag) (l:List Cert):∀ j,j≤l.length→(passD d (l.take j)).2.length=j→(passD d (l.take j)).2=l.take j
 | 0,_,_=>rfl
 | j+1,hj,h=>by
   obtain ⟨c,hc⟩:∃ c,l[j]? = some c:=⟨_,List.getElem?_eq_getElem (by omega)⟩
   have hl:=pass_len d l j
   have ih:=pass_allN d l j (by omega)
   rw [passD_snoc hc,stepD] at h ⊢
   simp only at h ⊢
   split at h
   ·rename_i h7
    rw [if_pos h7]
    rw [List.length_append,List.length_singleton] at h
    rw [ih (by omega),List.take_add_one,hc]
    rfl
   ·omega
def laSt (p:Prim) (out:List Msg) (s:Bool×Dag×List Cert):AF×List AB:=([(0,.ptr 0 0),(2,.d (.bool s.1))],(p.withDL s.2).st out)
def laI (p:Prim) (out:List Msg) (d:Dag) (l:List Cert) (s:Bool×Nat):AF×List AB:=([(0,.ptr 0 0),(2,.d (.bool s.1)),(3,.arr 2),(4,.d (.int .i64 s.2))],(p.withDL ((passD d (l.take s.2)).1,l)).st out++[.row 47 6 (certsD (passD d (l.take s.2)).2) false])
set_option maxHeartbeats 4000000 in
theorem late20_ok (p:Prim) (out:List Msg) (hf:Fine p.dag p.late):ACalls Tryz.prog 101 [.ptr 0 0] (p.st out) (fun av L=>av = .tup []∧L=(p.withDL (againD p.dag p.late)).st out):=by
 (refine acalls_go ttOk zOk foOk Tryz.func101 rfl Tryz.ntmps101 rfl false rfl ?_);(conv=>whnf)
 refine rdw ?_;repeat' ((with_reducible apply tw)<;>intro _)
 refine loop_goI ttOk zOk foOk (σ:=Bool×Dag×List Cert) (laSt p out) (fun s=>Fine s.2.1 s.2.2∧(s.1=true→againD s.2.1 s.2.2=againD p.dag p.late)∧(s.1=false→s.2=againD p.dag p.late)) (fun s=>if s.1 then s.2.2.length+1 else 0) ?_ ?_
 ·refine into_of [0,2] ?_
  conv=>whnf
  exact ⟨(true,p.dag,p.late),rfl,rfl,hf,fun _=>rfl,fun h=>by cases h⟩
 ·rintro ⟨b,d,l⟩ ⟨hfd,hag,hend⟩
  replace hfd:Fine d l:=hfd
  cases b with
  | false =>
    replace hend:(d,l)=againD p.dag p.late:=hend rfl
    conv=>whnf
    refine rdw ?_;repeat' ((with_reducible apply tw)<;>intro _)
    rw [← hend]
    exact ⟨rfl,rfl⟩
  | true =>
    replace hag:againD d l=againD p.dag p.late:=hag rfl
    have hcl:=certsD_length l
    have hr:=hfd.room
    conv=>whnf
    refine rdw ?_;repeat' ((with_reducible apply tw)<;>intro _)
    refine loop_go2 ttOk zOk foOk (σ:=Bool) (ρ:=Nat) (fun b j=>laI p out d l (b,j)) (fun b j=>j≤l.length∧b=decide ((passD d (l.take j)).2.length<j)) (fun _ j=>l.length - j) [0,2,3,4] ?_ ?_
    ·conv=>whnf
     exact ⟨false,0,rfl,rfl,Nat.zero_le _,rfl⟩
    ·rintro b j ⟨hj,hb⟩
     obtain ⟨k1,k2,k3,k4,k5⟩:=pass_fine hfd j hj
     have hpl:=pass_len d l j
     have hl2:=certsD_length (passD d (l.take j)).2
     conv=>whnf
     refine rdw ?_;repeat' ((with_reducible apply tw)<;>intro _)
     ·rename_i hjl
      replace hjl:(j:Int)<((certsD l).length:Int):=hjl
      refine Exists.elim (⟨_,List.getElem?_eq_getElem (by omega)⟩:∃ c,l[j]? = some c) fun c hc => ?_
      obtain ⟨hok,hct⟩:=hfd.late c (List.mem_of_getElem? hc)
      have hsn:=passD_snoc (d:=d) hc
      have hadd:=rAdd_ok (passD d (l.take j)).1 k1 c hct (certFew_of hfd.valid.nodes hok) (by rw [k2];exact hok)
      ((with_reducible refine draw_pl ttOk zOk foOk mixedOk pl101x7 ?_ ?_);(focus kernel_rfl);(conv=>whnf))
      repeat' (first|(first|((with_reducible first|apply rd_intro|apply gd_and);(focus ((conv=>whnf)<;>first|rfl|(intro K hK;(conv=>whnf);first|exact hK|exact z_wrap (by omega) hK)));conv=>whnf)|((with_reducible apply z_wrap);(focus omega);conv=>whnf)|((with_reducible first|apply mt_dec|apply mt_eq|apply mt_ne|apply mt_not|apply mt_any)<;>(intro _;conv=>whnf)))|((with_reducible apply rd_intro);(focus (intro K hK;(conv=>whnf);exact ⟨by omega,c.cs,certsD_at hc,hK⟩));(conv=>whnf))|((with_reducible apply rd_intro);(focus (intro K hK;(conv=>whnf);exact ix_map hc (by first|rfl|omega) hK));(conv=>whnf))|((with_reducible apply rd_intro);(focus (intro K hK;(conv=>whnf);refine (hadd).mono ?_;rintro _ _ ⟨rfl,rfl⟩;(conv=>whnf);exact hK));(conv=>whnf))|((with_reducible apply gd_and);(focus ((conv=>whnf);intro K hK;(conv=>whnf);exact ⟨by omega,c.cs,certsD_at hc,hK⟩));(conv=>whnf))|((with_reducible apply gd_and);(focus ((conv=>whnf);intro K hK;(conv=>whnf);refine (hadd).mono ?_;rintro _ _ ⟨rfl,rfl⟩;(conv=>whnf);exact hK));(conv=>whnf))|fail)
      ·rename_i h7
       replace h7:putE (passD d (l.take j)).1 c=7:=h7
       have hd7:putD (passD d (l.take j)).1 c=(passD d (l.take j)).1:=by unfold putD;rw [if_neg (by omega)]
       rw [stepD,if_pos h7,hd7] at hsn
       refine ⟨by omega,c.cs,certsD_at hc,?_⟩
       conv=>whnf
       refine rdw ?_;repeat' ((with_reducible apply tw)<;>intro _)
       refine ⟨by simp;omega,?_⟩
       conv=>whnf
       refine rdw ?_;repeat' ((with_reducible apply tw)<;>intro _)
       refine ⟨b,j+1,rfl,?_,⟨by omega,?_⟩,by omega⟩
       ·simp only [laI]
        rw [hsn]
        simp only
        rw [show certsD ((passD d (l.take j)).2++[c])=certsD (passD d (l.take j)).2++[c.cs] by simp [certsD]]
        rfl
       ·rw [hb,hsn]
        simp only [List.length_append,List.length_singleton]
        rw [decide_eq_decide]
        omega
      ·rename_i h7
       replace h7:¬putE (passD d (l.take j)).1 c=7:=h7
       rw [stepD,if_neg h7] at hsn
       refine ⟨true,j+1,rfl,?_,⟨by omega,?_⟩,by omega⟩
       ·simp only [laI]
        rw [hsn]
        rfl
       ·rw [hsn]
        simp only
        rw [decide_eq_true (by omega)]
     ·rename_i hjl
      replace hjl:¬(j:Int)<((certsD l).length:Int):=hjl
      obtain rfl:j=l.length:=by omega
      rw [List.take_length] at k1 k2 k3 k4 k5 hpl hl2 hb
      refine into_seal [(0,15)] rfl ?_
      refine into_of [0,2] ?_
      conv=>whnf
      by_cases hlt:(passD d l).2.length<l.length
      ·rw [decide_eq_true hlt] at hb
       subst hb
       refine ⟨(true,(passD d l).1,(passD d l).2),rfl,by rw [List.take_length];rfl,⟨⟨k1,by show (passD d l).1.certs.length+(passD d l).2.length≤_;omega,fun c hc=>by rw [k2];exact hfd.late c (k5 c hc)⟩,fun _ => ?_,fun h=>by cases h⟩,by show (passD d l).2.length+1<l.length+1;omega⟩
       show againD (passD d l).1 (passD d l).2=_
       have e1:againD d l=againF l.length (passD d l).1 (passD d l).2:=by
        rw [againD,againF,if_pos hlt]
       rw [← hag,e1,againD]
       exact againF_fuel _ _ _ _ (by omega) (by omega)
      ·rw [decide_eq_false hlt] at hb
       subst hb
       have hall:=pass_allN d l l.length (Nat.le_refl _) (by rw [List.take_length];omega)
       rw [List.take_length] at hall
       have e1:againD d l=((passD d l).1,l):=by rw [againD,againF,if_neg hlt]
       refine ⟨(false,(passD d l).1,l),rfl,by rw [List.take_length,hall];rfl,⟨⟨k1,by show (passD d l).1.certs.length+l.length≤_;omega,fun c hc=>by rw [k2];exact hfd.late c hc⟩,⟨fun h=>(by cases h),fun _=>(by rw [← hag,e1])⟩⟩,by show 0<l.length+1;omega⟩
def cntI (l:List Int) (k:Nat):Nat:=(((List.range k).map fun n:Nat=>(n:Int)+1).filter fun x=>decide (x∈l)).length
theorem cntI_succ (l:List Int) (k:Nat):cntI l (k+1)=cntI l k+(if (k:Int)+1∈l then 1 else 0):=by
 unfold cntI
 rw [List.range_succ,List.map_append,List.filter_append,List.length_append]
 congr 1
 by_cases h:(k:Int)+1∈l
 ·simp [h]
 ·simp [h]
theorem cntI_le (l:List Int) (k:Nat):cntI l k≤k:=by
 unfold cntI
 exact Nat.le_trans (List.length_filter_le ..) (by simp)
theorem cntI_all {l:List Int} {n:Nat} (h:riseB l 1 n):cntI l n=l.length:=by
 have hnd:((List.range n).map fun n:Nat=>(n:Int)+1).Nodup:=by
  rw [List.nodup_iff_pairwise_ne,List.pairwise_map]
  exact List.nodup_range.imp fun h e=>h (by omega)
 have h1:cntI l n≤l.length:=sub_len (hnd.filter _) fun x hx=>by
  have:=(List.mem_filter.1 hx).2
  simpa using this
 have h2:l.length≤cntI l n:=sub_len (rising_nodup h.1) fun x hx=>by
  have:=h.2 x hx
  exact List.mem_filter.2 ⟨List.mem_map.2 ⟨(x - 1).toNat,by simp;omega,by omega⟩,by simpa using hx⟩
 omega
theorem rCount_ok (n:Int) (hn:0≤n∧n≤16) (l:List Int) (hl:few l):ACalls Tryz.prog 139 [.d (.int .i64 n),.d (.sl 1 (nums l))] [] (fun av L=>av = .d (.int .i64 (cntI l n.toNat))∧L=[]):=by
 (refine acalls_go ttOk zOk foOk Tryz.func139 rfl Tryz.ntmps139 rfl false rfl ?_);(conv=>whnf)
 refine loop_go ttOk zOk foOk (σ:=Nat) (fun k=>([(0,.d (.int .i64 n)),(1,.d (.sl 1 (nums l))),(5,.d (.int .i64 (cntI l k))),(6,.d (.int .i64 ((k:Int)+1)))],[])) (fun k=>k≤n.toNat) (fun k=>n.toNat - k) [0,1,5,6] ?_ ?_
 ·conv=>whnf
  exact ⟨0,rfl,rfl,Nat.zero_le _⟩
 ·intro k hk
  have hcl:=cntI_le l k
  have hsn:=cntI_succ l k
  conv=>whnf
  refine rdz ?_;repeat' ((with_reducible apply tw)<;>intro _)
  ·rename_i k1
   replace k1:(k:Int)+1≤n:=k1
   refine (in_ok l hl ((k:Int)+1)).mono ?_
   rintro _ _ ⟨rfl,rfl⟩
   conv=>whnf
   refine rdz ?_;repeat' ((with_reducible apply tw)<;>intro _)
   ·rename_i k2
    replace k2:inI l ((k:Int)+1)≥0:=k2
    rw [if_pos (inI_iff.1 k2)] at hsn
    exact ⟨k+1,by rw [hsn];rfl,rfl,by omega,by omega⟩
   ·rename_i k2
    replace k2:¬inI l ((k:Int)+1)≥0:=k2
    rw [if_neg (fun h=>k2 (inI_iff.2 h)),Nat.add_zero] at hsn
    exact ⟨k+1,by rw [hsn];rfl,rfl,by omega,by omega⟩
  ·rename_i k1
   replace k1:¬(k:Int)+1≤n:=k1
   rw [show n.toNat=k by omega]
   exact ⟨rfl,rfl⟩
theorem isLate20_ok (p:Prim) (out:List Msg) (hl:few p.late) (d:Int):ACalls Tryz.prog 162 [.ptr 0 0,.d (.int .i64 d)] (p.st out) (fun av L=>av = .d (.bool (isLate p.late d))∧L=p.st out):=by
 have hcl:=certsD_length p.late
 unfold few at hl
 (refine acalls_go ttOk zOk foOk Tryz.func162 rfl Tryz.ntmps162 rfl false rfl ?_);(conv=>whnf)
 refine rdw ?_;repeat' ((with_reducible apply tw)<;>intro _)
 refine loop_go ttOk zOk foOk (σ:=Nat) (fun k=>([(0,.ptr 0 0),(1,.d (.int .i64 d)),(5,.d (.int .i64 k))],p.st out)) (fun k=>k≤p.late.length∧isLate (p.late.take k) d=false) (fun k=>p.late.length - k) [0,1,5] ?_ ?_
 ·conv=>whnf
  exact ⟨0,rfl,rfl,Nat.zero_le _,rfl⟩
 ·rintro k ⟨hk,hno⟩
  conv=>whnf
  refine rdw ?_;repeat' ((with_reducible apply tw)<;>intro _)
  ·rename_i k1
   replace k1:(k:Int)<((certsD p.late).length:Int):=k1
   refine Exists.elim (⟨_,List.getElem?_eq_getElem (by omega)⟩:∃ c,p.late[k]? = some c) fun c hc => ?_
   refine ⟨by omega,c.cs,certsD_at hc,?_⟩
   conv=>whnf
   refine rdw ?_;repeat' ((with_reducible apply tw)<;>intro _)
   ·rename_i k2
    replace k2:c.digest=d:=k2
    refine ⟨?_,rfl⟩
    rw [show isLate p.late d=true from by
     rw [isLate,List.any_eq_true]
     exact ⟨c,List.mem_of_getElem? hc,by simpa using k2⟩]
    rfl
   ·rename_i k2
    replace k2:c.digest≠d:=k2
    refine ⟨k+1,rfl,rfl,⟨by omega,?_⟩,by omega⟩
    unfold isLate at hno ⊢
    rw [List.take_add_one,hc,List.any_append,hno]
    simpa using k2
  ·rename_i k1
   replace k1:¬(k:Int)<((certsD p.late).length:Int):=k1
   rw [List.take_of_length_le (by omega)] at hno
   rw [hno]
   exact ⟨rfl,rfl⟩
theorem freshI_snoc (late:List Cert) {l:List Int} {j:Nat} {x:Int} (hx:l[j]? = some x):freshI late (l.take (j+1))=freshI late (l.take j)++(if isLate late x then [] else [x]):=by
 unfold freshI
 rw [List.take_add_one,hx,List.filter_append]
 cases hb:isLate late x<;>simp [List.filter_cons,hb]
set_option maxHeartbeats 4000000 in
theorem lacks20_ok (p:Prim) (out:List Msg) (hv:Valid p.dag) (hl:few p.late) (c:Cert) (hc:c.pars.length≤1000000) (hr:1≤c.round∧c.round≤1099511627776):ACalls Tryz.prog 161 [.ptr 0 0,c.hav] (p.st out) (fun av L=>av = .d (.sl 1 (nums (freshI p.late (lackI p.dag c))))∧L=p.st out):=by
 have hdl:=hv.len
 have hlk:=rLacks_ok p.dag (by unfold few;omega) c (by omega) hr
 rw [lacks_lack hv] at hlk
 obtain ⟨l,hll⟩:∃ l,lackI p.dag c=l:=⟨_,rfl⟩
 rw [hll] at hlk ⊢
 have hlen:l.length≤1000000:=by
  rw [← hll]
  unfold lackI
  split
  ·exact Nat.zero_le _
  ·exact Nat.le_trans (List.length_filter_le ..) hc
 have hnl:=nums_length l
 have hla:=fun x=>isLate20_ok p out hl x
 (refine acalls_go ttOk zOk foOk Tryz.func161 rfl Tryz.ntmps161 rfl false rfl ?_);(conv=>whnf)
 refine rdw ?_;repeat' ((with_reducible apply tw)<;>intro _)
 ((with_reducible refine draw_pl ttOk zOk foOk mixedOk pl161x2 ?_ ?_);(focus kernel_rfl);(conv=>whnf))
 repeat' (first|(first|((with_reducible first|apply rd_intro|apply gd_and);(focus ((conv=>whnf)<;>first|rfl|(intro K hK;(conv=>whnf);first|exact hK|exact z_wrap (by omega) hK)));conv=>whnf)|((with_reducible apply z_wrap);(focus omega);conv=>whnf)|((with_reducible first|apply mt_dec|apply mt_eq|apply mt_ne|apply mt_not|apply mt_any)<;>(intro _;conv=>whnf)))|((with_reducible apply rd_intro);(focus (intro K hK;(conv=>whnf);refine (hlk).mono ?_;rintro _ _ ⟨rfl,rfl⟩;(conv=>whnf);exact hK));(conv=>whnf))|((with_reducible apply gd_and);(focus ((conv=>whnf);intro K hK;(conv=>whnf);refine (hlk).mono ?_;rintro _ _ ⟨rfl,rfl⟩;(conv=>whnf);exact hK));(conv=>whnf))|(refine (hlk).mono ?_;rintro _ _ ⟨rfl,rfl⟩;(conv=>whnf))|fail)
 refine loop_go ttOk zOk foOk (σ:=Nat) (fun j=>([(0,.ptr 0 0),(5,.arr 2),(6,.d (.sl 1 (nums l))),(7,.d (.int .i64 j))],p.st out++[.row 3 1 (nums (freshI p.late (l.take j))) false])) (fun j=>j≤l.length) (fun j=>l.length - j) [0,5,6,7] ?_ ?_
 ·conv=>whnf
  exact ⟨0,rfl,rfl,Nat.zero_le _⟩
 ·intro j hj
  have hfn:(nums (freshI p.late (l.take j))).length≤l.length:=by rw [nums_length];exact Nat.le_trans (List.length_filter_le ..) (List.length_take_le' ..)
  conv=>whnf
  refine rdw ?_;repeat' ((with_reducible apply tw)<;>intro _)
  ·rename_i hjl
   replace hjl:(j:Int)<((nums l).length:Int):=hjl
   refine Exists.elim (⟨_,List.getElem?_eq_getElem (by omega)⟩:∃ x,l[j]? = some x) fun x hx => ?_
   have hsn:=freshI_snoc p.late hx
   refine ⟨by omega,[.int .i64 x],nums_at hx,?_⟩
   conv=>whnf
   refine (hla x).mono ?_
   rintro _ _ ⟨rfl,rfl⟩
   obtain ⟨b,hb⟩:∃ b,isLate p.late x=b:=⟨_,rfl⟩
   rw [hb] at hsn ⊢
   cases b with
   | true =>
     conv=>whnf
     refine rdw ?_;repeat' ((with_reducible apply tw)<;>intro _)
     refine ⟨j+1,rfl,?_,by omega,by omega⟩
     rw [hsn]
     simp
     rfl
   | false =>
     conv=>whnf
     refine rdw ?_;repeat' ((with_reducible apply tw)<;>intro _)
     refine ⟨by omega,[.int .i64 x],nums_at hx,?_⟩
     conv=>whnf
     refine rdw ?_;repeat' ((with_reducible apply tw)<;>intro _)
     refine ⟨by simp;omega,?_⟩
     conv=>whnf
     refine rdw ?_;repeat' ((with_reducible apply tw)<;>intro _)
     refine ⟨j+1,rfl,?_,by omega,by omega⟩
     rw [hsn,if_neg (by decide),← nums_apps]
     rfl
  ·rename_i hjl
   replace hjl:¬(j:Int)<((nums l).length:Int):=hjl
   have:l.take j=l:=List.take_of_length_le (by omega)
   rw [this]
   exact ⟨rfl,rfl⟩
theorem chn_lt {n k:Nat}:k<chn n↔16 * k<n:=by unfold chn;omega
def waSt (p:Prim) (out:List Msg) (kind to:Int) (l:List Int) (j:Bool) (k:Nat):AF×List AB:=([(0,.ptr 0 0),(1,.d (.int .i64 kind)),(2,.d (.int .i64 to)),(3,.d (.sl 1 (nums (l.drop (16 * k)))))],p.sj j (out++((chunksI l).take k).map (wantM p to kind)))
set_option maxHeartbeats 4000000 in
theorem wants20_ok (p:Prim) (out:List Msg) (ho:out.length≤1000000) (kind to:Int) (l:List Int) (hl:l.length≤1000000):ACalls Tryz.prog 160 [.ptr 0 0,.d (.int .i64 kind),.d (.int .i64 to),.d (.sl 1 (nums l))] (p.st out) (fun av L=>av = .tup []∧∃ j,L=p.sj j (if to=p.id then out else out++wantO p to kind l)):=by
 have hcl:=chunksI_length l
 (refine acalls_go ttOk zOk foOk Tryz.func160 rfl Tryz.ntmps160 rfl false rfl ?_);(conv=>whnf)
 refine rdz ?_;repeat' ((with_reducible apply tw)<;>intro _)
 ·rename_i k0
  replace k0:to=p.id:=k0
  rw [if_pos k0]
  exact ⟨rfl,false,rfl⟩
 ·rename_i k0
  replace k0:to≠p.id:=k0
  rw [if_neg k0]
  refine loop_go2 ttOk zOk foOk (σ:=Bool) (ρ:=Nat) (waSt p out kind to l) (fun _ k=>k≤chn l.length) (fun _ k=>chn l.length - k) [0,1,2,3] ?_ ?_
  ·conv=>whnf
   exact ⟨false,0,rfl,by unfold waSt;rw [List.take_zero,List.map_nil,List.append_nil];rfl,Nat.zero_le _⟩
  ·intro j k hk
   have hnl:=nums_length (l.drop (16 * k))
   have hol:(out++((chunksI l).take k).map (wantM p to kind)).length≤100000000:=by
    rw [List.length_append,List.length_map,List.length_take,hcl]
    unfold chn at *
    omega
   cases j
   all_goals
    conv=>whnf
    refine rdz ?_;repeat' ((with_reducible apply tw)<;>intro _)
    ·rename_i k1
     replace k1:((nums (l.drop (16 * k))).length:Int)>0:=k1
     rw [List.length_drop] at hnl
     have hkc:k<chn l.length:=chn_lt.2 (by omega)
     have hx:(chunksI l)[k]? = some (partI l k):=by
      unfold chunksI
      rw [List.getElem?_map,List.getElem?_range hkc]
      rfl
     have hmn:(nums (l.drop (16 * k))).take (min ((nums (l.drop (16 * k))).length:Int) 16).toNat=nums (partI l k):=by
      rw [nums_take',partI]
      congr 1
      by_cases h16:(l.drop (16 * k)).length≤16
      ·rw [List.take_of_length_le h16,List.take_of_length_le (by rw [List.length_drop] at *;omega)]
      ·rw [show (min ((nums (l.drop (16 * k))).length:Int) 16).toNat=16 by rw [List.length_drop] at h16;omega]
     have hdr:(nums (l.drop (16 * k))).drop (min ((nums (l.drop (16 * k))).length:Int) 16).toNat=nums (l.drop (16 * (k+1))):=by
      rw [nums_drop',List.drop_drop]
      congr 1
      by_cases h16:(l.drop (16 * k)).length≤16
      ·rw [List.length_drop] at h16
       rw [List.drop_of_length_le (by omega),List.drop_of_length_le (by omega)]
      ·rw [List.length_drop] at h16
       rw [show (min ((nums (l.drop (16 * k))).length:Int) 16).toNat=16 by omega,show 16 * k+16=16 * (k+1) by omega]
     have hpl:(partI l k).length≤16:=List.length_take_le ..
     have hcn:=copyNumbers_ok (partI l k) (by unfold tiny;omega)
     have hte:=tells20_ok p (out++((chunksI l).take k).map (wantM p to kind)) (by omega) (⟨kind,0,to,0,0,0,[],cz0,cz0,partI l k⟩:Msg)
     refine ⟨by decide,by omega,by omega,?_⟩
     conv=>whnf
     refine rdz ?_;repeat' ((with_reducible apply tw)<;>intro _)
     rw [show (nums (l.drop (16 * k))).take (min ((nums (l.drop (16 * k))).length:Int) 16).toNat=nums (partI l k) from hmn]
     refine hcn.mono ?_
     rintro _ _ ⟨rfl,rfl⟩
     conv=>whnf
     refine rdz ?_;repeat' ((with_reducible apply tw)<;>intro _)
     refine (acalls_nw hte (.cons (.refl _) (.cons (.agg ?_) .nil))).mono ?_
     ·repeat (first|exact .nil|refine .cons (.refl _) ?_|refine .cons (.nils _ (by decide)) ?_)
     ·rintro _ _ ⟨rfl,rfl⟩
      conv=>whnf
      refine rdz ?_;repeat' ((with_reducible apply tw)<;>intro _)
      refine ⟨by omega,by omega,by omega,?_⟩
      conv=>whnf
      refine rdz ?_;repeat' ((with_reducible apply tw)<;>intro _)
      have htk:(nums (l.drop (16 * k))).take ((nums (l.drop (16 * k))).length:Int).toNat=nums (l.drop (16 * k)):=List.take_of_length_le (by omega)
      have hout:out++((chunksI l).take (k+1)).map (wantM p to kind)=out++((chunksI l).take k).map (wantM p to kind)++[(⟨kind,0,to,0,0,0,[],cz0,cz0,partI l k⟩:Msg).from p]:=by
       rw [List.take_add_one,hx]
       simp [wantM,Msg.from]
      refine ⟨true,k+1,?_,?_,(show k+1≤chn l.length by omega),(show chn l.length - (k+1)<chn l.length - k by omega)⟩
      ·unfold waSt
       rw [htk,hdr]
      ·unfold waSt
       rw [hout]
       rfl
    ·rename_i k1
     replace k1:¬((nums (l.drop (16 * k))).length:Int)>0:=k1
     rw [List.length_drop] at hnl
     have:¬k<chn l.length:=fun h=>by have:=chn_lt.1 h;omega
     rw [List.take_of_length_le (by omega)]
     first
      | exact ⟨rfl,false,rfl⟩
      | exact ⟨rfl,true,rfl⟩
end Go.Proofs.YtolkmjfkkkiboaaGreat
