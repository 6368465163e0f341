/- PrimaryStrange: contracts. -/
import Derived.Test.YtolkmjfkkkiboaaGreatPrimaryStrangeCodK
set_option linter.unusedVariables false
set_option linter.unusedSimpArgs false
namespace Go.Proofs.YtolkmjfkkkiboaaGreat
open Go.Ab Go.RowKit Go.MapKept
attribute [local irreducible] ACalls AW ADraw Into fltB fnear
set_option maxRecDepth 100000
def errH (e:Int):AV := .tup [.agg [.d (.int .i64 0),.d (.int .i64 0),.d .nils,.d .nils],.d (.int .i64 e)]
open Classical in
theorem make_full (p:Prim) (hok:p.ok) (hdl:p.dag.certs.length≤100000) (l:List Int) (hl:few l):ACalls Tryz.prog 44 [p.av,.d (.sl 1 (nums l))] [] (fun av L=>(((May p∧digsB l=true)∧readyB p=true∧av = .tup [(headC p l).hav,.d (.int .i64 0)])∨((May p∧digsB l=true)∧readyB p=false∧av=errH 10)∨(¬(May p∧digsB l=true)∧av=errH 1))∧L=[]):=by
 have h1:=primMay_full p hok
 have h2:=containsMk_ok l hl
 (refine acalls_go ttOk zOk foOk Tryz.func44 rfl Tryz.ntmps44 rfl false rfl ?_);(conv=>whnf)
 refine rdw ?_;repeat' ((with_reducible apply tw)<;>intro _)
 refine h1.mono ?_
 rintro _ _ ⟨rfl,rfl⟩
 by_cases k1:May p
 ·rw [decide_eq_true k1]
  have h3:=ready_ok p k1.dag.fit k1.isn k1.round
  have h4:=headP_ok p k1.dag.fit k1.round hdl l hl
  conv=>whnf
  refine rdw ?_;repeat' ((with_reducible apply tw)<;>intro _)
  refine h2.mono ?_
  rintro _ _ ⟨rfl,rfl⟩
  cases k2:digsB l with
  | false =>
    conv=>whnf
    refine rdw ?_;repeat' ((with_reducible apply tw)<;>intro _)
    exact ⟨.inr (.inr ⟨fun h=>(by cases h.2),rfl⟩),rfl⟩
  | true =>
    conv=>whnf
    refine rdw ?_;repeat' ((with_reducible apply tw)<;>intro _)
    refine h3.mono ?_
    rintro _ _ ⟨rfl,rfl⟩
    cases k3:readyB p with
    | false =>
      conv=>whnf
      refine rdw ?_;repeat' ((with_reducible apply tw)<;>intro _)
      exact ⟨.inr (.inl ⟨⟨k1,rfl⟩,rfl,rfl⟩),rfl⟩
    | true =>
      conv=>whnf
      refine rdw ?_;repeat' ((with_reducible apply tw)<;>intro _)
      (refine (h4).mono ?_;rintro _ _ ⟨rfl,rfl⟩;(conv=>whnf))
      refine rdw ?_;repeat' ((with_reducible apply tw)<;>intro _)
      exact ⟨.inl ⟨⟨k1,rfl⟩,rfl,rfl⟩,rfl⟩
 ·rw [decide_eq_false k1]
  conv=>whnf
  refine rdw ?_;repeat' ((with_reducible apply tw)<;>intro _)
  exact ⟨.inr (.inr ⟨fun h=>k1 h.1,rfl⟩),rfl⟩
def hdr (h:Cert):Cert:=⟨h.author,h.round,h.bats,h.pars,0,[]⟩
def propP (p:Prim) (h:Cert) (d:Int):Prim:={ p with votes:=putV p.votes ⟨h.round,p.id,d⟩,said:=p.round,mine:=hdr h,dig:=d,acks:=[p.id] }
def sayP (p:Prim) (h:Cert) (d:Int):Prim:=certdP (propP p h d)
def sayO (p:Prim) (h:Cert) (d:Int):List Msg:=tellO (propP p h d) (askMsg (propP p h d)) [] p.nodes.toNat++(if doneP (propP p h d) then tellO (clearP (propP p h d)) (certMsg (certP (propP p h d))) [] p.nodes.toNat else [])
structure sayC (p:Prim) (h:Cert):Prop where
 ready:readyB p=true
 round:h.round=p.round
 pars:h.pars=sortI (parsF p)
theorem prop_certd {p:Prim} (hm:May p) (hr:p.dag.certs.length+p.late.length<60000) {h:Cert} (hh:okHead p.nodes h) {d:Int} (hd:1≤d∧d≤65536) (hdn:doneP (propP p h d)=true):CertdOk (propP p h d):=by
 have hnn:=of_decide_eq_true hm.isn
 have hid:=hm.id
 have hok:okCert p.nodes (certP (propP p h d)):=by
  refine ⟨⟨hh.isn,hh.author,hh.round,hh.bats,hh.pars,hh.one,hh.many⟩,hd,⟨List.pairwise_singleton ..,fun x hx=>by have:=List.mem_singleton.1 hx;subst this;exact hid⟩,?_⟩
  simp only [doneP,Bool.not_eq_true',Bool.or_eq_false_iff,decide_eq_false_iff_not] at hdn
  have:=hdn.2
  show (([p.id]:List Int).length:Int)≥quo p.nodes
  have h2:(propP p h d).acks.length=1:=rfl
  have h3:(propP p h d).nodes=p.nodes:=rfl
  rw [h2,h3] at this
  show ((1:Nat):Int)≥_
  omega
 exact ⟨by rw [show (propP p h d).dag.nodes=p.nodes from hm.same];exact hok,certTiny_of hm.isn hok,hm.fine (Nat.le_of_lt hr),hr,hm.late.ris⟩
theorem few_le {α:Type} {l:List α} (n:Nat) (h:l.length≤n) (hn:n≤140737488355328:=by decide):few l:=by unfold few;omega
structure propC (p:Prim) (h:Cert) (d:Int):Prop where
 may:May p
 dig:1≤d∧d≤65536
 head:okHead p.nodes h
 author:h.author=p.id
structure Tx.ok (t:Tx):Prop where
 key:t.key.size≤140737488355328
 val:t.val.size≤140737488355328
theorem txW_full (l:List Tx) (hl:few l) (hk:∀ t∈l,t.ok):ACalls Tryz.prog 124 [.d (.sl 4 (txsD l))] [] (fun av L=>(∃ n:Int,av = .d (.int .i64 n)∧(l.length:Int)≤n∧n≤562949953421312)∧L=[]):=by
 have hcl:=txsD_length l
 unfold few at hl
 (refine acalls_go ttOk zOk foOk Tryz.func124 rfl Tryz.ntmps124 rfl false rfl ?_);(conv=>whnf)
 refine loop_go2 ttOk zOk foOk (σ:=Int) (ρ:=Nat) (fun w j=>([(0,.d (.sl 4 (txsD l))),(3,.d (.int .i64 w)),(4,.d (.int .i64 j))],[])) (fun w j=>j≤l.length∧(l.length:Int)≤w∧w≤562949953421312) (fun _ j=>l.length - j) [0,3,4] ?_ ?_
 ·conv=>whnf
  exact ⟨l.length,0,by rw [hcl];rfl,rfl,by omega,by omega,by omega⟩
 ·rintro w j ⟨hj,hw1,hw2⟩
  conv=>whnf
  rw [hcl]
  refine rdw ?_;repeat' ((with_reducible apply tw)<;>intro _)
  ·rename_i hjl hwl
   replace hwl:w<1048576:=hwl
   refine Exists.elim (⟨_,List.getElem?_eq_getElem (by omega)⟩:∃ c,l[j]? = some c) fun c hc => ?_
   have hcx:=hk c (List.mem_of_getElem? hc)
   have hk1:=hcx.key
   have hk2:=hcx.val
   ((with_reducible refine draw_pl ttOk zOk foOk mixedOk pl124x5 ?_ ?_);(focus kernel_rfl);(conv=>whnf))
   repeat' (first|((with_reducible apply rd_intro);(focus (intro K hK;(conv=>whnf);exact ix_map hc (by first|rfl|omega) hK));(conv=>whnf))|(first|((with_reducible first|apply rd_intro|apply gd_and);(focus ((conv=>whnf)<;>first|rfl|(intro K hK;(conv=>whnf);first|exact hK|exact z_wrap (by omega) hK)));conv=>whnf)|((with_reducible apply z_wrap);(focus omega);conv=>whnf)|((with_reducible first|apply mt_dec|apply mt_eq|apply mt_ne|apply mt_not|apply mt_any)<;>(intro _;conv=>whnf))))
   exact ⟨_,j+1,rfl,rfl,⟨by omega,by omega,by omega⟩,by omega⟩
  ·exact ⟨⟨_,rfl,hw1,hw2⟩,rfl⟩
  ·exact ⟨⟨_,rfl,hw1,hw2⟩,rfl⟩
structure Msg.light (m:Msg):Prop where
 txs:m.txs.length≤2000
 head:m.head.bats.length≤2000∧m.head.pars.length≤2000
 cert:m.cert.light
 digs:m.digs.length≤2000
theorem msgW_full (m:Msg) (h:m.ok) (hk:∀ t∈m.txs,t.ok):ACalls Tryz.prog 65 [m.av] [] (fun av L=>(∃ n:Int,av = .d (.int .i64 n)∧(n≤2000→m.light))∧L=[]):=by
 have h1:=txW_full m.txs h.txs hk
 have h2:=headW_ok m.head h.head
 have h3:=certW_ok m.cert h.cert
 have l7:=nums_length m.digs
 have f1:=h.head.bats.1
 have f2:=h.head.pars.1
 have f3:=h.cert.bats.1
 have f4:=h.cert.pars.1
 have f5:=h.cert.sigs.1
 have f6:=h.digs
 unfold few at f1 f2 f3 f4 f5 f6
 (refine acalls_go ttOk zOk foOk Tryz.func65 rfl Tryz.ntmps65 rfl false rfl ?_);(conv=>whnf)
 ((with_reducible refine draw_pl ttOk zOk foOk mixedOk pl65x1 ?_ ?_);(focus kernel_rfl);(conv=>whnf))
 refine rdw ?_;repeat' ((with_reducible apply tw)<;>intro _)
 refine h1.mono ?_
 rintro _ _ ⟨⟨n,rfl,hn1,hn2⟩,rfl⟩
 conv=>whnf
 refine rdw ?_;repeat' ((with_reducible apply tw)<;>intro _)
 refine h2.mono ?_
 rintro _ _ ⟨rfl,rfl⟩
 conv=>whnf
 refine rdw ?_;repeat' ((with_reducible apply tw)<;>intro _)
 refine h3.mono ?_
 rintro _ _ ⟨rfl,rfl⟩
 conv=>whnf
 refine rdw ?_;repeat' ((with_reducible apply tw)<;>intro _)
 exact ⟨⟨_,rfl,fun hle=>⟨by omega,⟨by omega,by omega⟩,⟨by omega,by omega,by omega⟩,by omega⟩⟩,rfl⟩
theorem heavyM_full (m:Msg) (h:m.ok) (hk:∀ t∈m.txs,t.ok):ACalls Tryz.prog 24 [m.av] [] (fun av L=>(∃ b:Bool,av = .d (.bool b)∧(b=false→m.light))∧L=[]):=by
 have h1:=msgW_full m h hk
 (refine acalls_go ttOk zOk foOk Tryz.func24 rfl Tryz.ntmps24 rfl false rfl ?_);(conv=>whnf)
 refine rdw ?_;repeat' ((with_reducible apply tw)<;>intro _)
 refine h1.mono ?_
 rintro _ _ ⟨⟨n,rfl,hn⟩,rfl⟩
 conv=>whnf
 refine rdw ?_;repeat' ((with_reducible apply tw)<;>intro _)
 exact ⟨⟨_,rfl,fun hb=>hn (by have:=of_decide_eq_false hb;omega)⟩,rfl⟩
structure Act.light (a:Act):Prop where
 m:a.m.light
 l:a.l.length≤200
 h:a.h.bats.length≤200∧a.h.pars.length≤200
structure Script.light (s:Script):Prop where
 certs:s.p.dag.certs.length≤80∧∀ c∈s.p.dag.certs,c.light
 late:s.p.late.length≤60∧∀ c∈s.p.late,c.light
 votes:s.p.votes.length≤300
 acks:s.p.acks.length≤100
 mine:s.p.mine.bats.length≤200∧s.p.mine.pars.length≤200
 acts:s.acts.length≤50∧∀ a∈s.acts,a.light
structure Script.oks (s:Script):Prop where
 ok:s.ok
 txs:∀ a∈s.acts,∀ t∈a.m.txs,t.ok
 few:∀ a∈s.acts,Go.Proofs.YtolkmjfkkkiboaaGreat.few a.l
set_option maxHeartbeats 2000000 in
theorem heavyS_full (s:Script) (hh:s.oks):ACalls Tryz.prog 14 [s.av] [] (fun av L=>(∃ b:Bool,av = .d (.bool b)∧(b=false→s.light))∧L=[]):=by
 have h:=hh.ok
 have hal:=actsD_length s.acts
 have hll:=certsD_length s.p.late
 have hvl:=votesD_length s.p.votes
 have hkl:=nums_length s.p.acks
 have h1:=heavyD3_ok s.p.dag h.dag
 have h2:=certsW3_ok s.p.late h.late.1 h.late.2
 have h3:=headW_ok s.p.mine h.mine
 have yes:∀ L:List AB,L=[]→((∃ b:Bool,AV.d (.bool true) = .d (.bool b)∧(b=false→s.light))∧L=[]):=fun L e=>⟨⟨true,rfl,fun h=>(by cases h)⟩,e⟩
 (refine acalls_go ttOk zOk foOk Tryz.func14 rfl Tryz.ntmps14 rfl false rfl ?_);(conv=>whnf)
 refine rdw ?_;repeat' ((with_reducible apply tw)<;>intro _)
 refine h1.mono ?_
 rintro _ _ ⟨⟨b,rfl,hb⟩,rfl⟩
 conv=>whnf
 cases b
 ·replace hb:=hb rfl
  conv=>whnf
  refine h2.mono ?_
  rintro _ _ ⟨⟨n,rfl,hn⟩,rfl⟩
  conv=>whnf
  refine rdw ?_;repeat' ((with_reducible apply tw)<;>intro _)
  all_goals first|exact yes _ rfl|skip
  rename_i k1 k2 k3 k4
  replace k2:¬((certsD s.p.late).length:Int)>60:=k2
  replace k3:¬((votesD s.p.votes).length:Int)>300:=k3
  replace k4:¬((nums s.p.acks).length:Int)>100:=k4
  refine h3.mono ?_
  rintro _ _ ⟨rfl,rfl⟩
  conv=>whnf
  refine rdw ?_;repeat' ((with_reducible apply tw)<;>intro _)
  all_goals first|exact yes _ rfl|skip
  rename_i k5 k6
  replace k5:¬(1+(s.p.mine.bats.length:Int)+s.p.mine.pars.length)>200:=k5
  replace k6:¬((actsD s.acts).length:Int)>50:=k6
  refine loop_go ttOk zOk foOk (σ:=Nat) (fun j=>([(1,.ptr 0 0),(3,.d (.int .i64 j))],[.cells (s.cs.map AV.d)])) (fun j=>j≤s.acts.length∧∀ a∈s.acts.take j,a.light) (fun j=>s.acts.length - j) [1,3] ?_ ?_
  ·conv=>whnf
   exact ⟨0,rfl,rfl,Nat.zero_le _,by simp⟩
  ·rintro j ⟨hj,hlt⟩
   conv=>whnf
   rw [hal]
   refine rdw ?_;repeat' ((with_reducible apply tw)<;>intro _)
   ·rename_i hjl
    refine Exists.elim (⟨_,List.getElem?_eq_getElem (by omega)⟩:∃ c,s.acts[j]? = some c) fun a ha => ?_
    have ham:=List.mem_of_getElem? ha
    have hk:=h.acts.2 a ham
    have hl2:=nums_length a.l
    refine ⟨by omega,a.cs,actsD_at ha,?_⟩
    conv=>whnf
    refine (heavyM_full a.m hk.m (hh.txs a ham)).mono ?_
    rintro _ _ ⟨⟨b,rfl,hbm⟩,rfl⟩
    conv=>whnf
    cases b
    ·replace hbm:=hbm rfl
     conv=>whnf
     refine rdw ?_;repeat' ((with_reducible apply tw)<;>intro _)
     refine ⟨by omega,a.cs,actsD_at ha,?_⟩
     conv=>whnf
     refine rdw ?_;repeat' ((with_reducible apply tw)<;>intro _)
     all_goals first|exact yes _ rfl|skip
     rename_i k7
     replace k7:¬((nums a.l).length:Int)>200:=k7
     refine ⟨by omega,a.cs,actsD_at ha,?_⟩
     conv=>whnf
     refine (headW_ok a.h hk.h).mono ?_
     rintro _ _ ⟨rfl,rfl⟩
     conv=>whnf
     refine rdw ?_;repeat' ((with_reducible apply tw)<;>intro _)
     ·exact yes _ rfl
     ·rename_i k8
      replace k8:¬(1+(a.h.bats.length:Int)+a.h.pars.length)>200:=k8
      refine ⟨j+1,rfl,rfl,⟨by omega,fun x hx => ?_⟩,by omega⟩
      rw [List.take_add_one,ha] at hx
      rcases List.mem_append.1 hx with hx|hx
      ·exact hlt x hx
      ·simp at hx
       subst hx
       exact ⟨hbm,by omega,⟨by omega,by omega⟩⟩
    ·conv=>whnf
     exact yes _ rfl
   ·rename_i hjl
    rw [List.take_of_length_le (by omega)] at hlt
    exact ⟨⟨false,rfl,fun _=>⟨hb,⟨by omega,hn (by omega)⟩,by omega,by omega,⟨by omega,by omega⟩,⟨by omega,hlt⟩⟩⟩,rfl⟩
 ·conv=>whnf
  exact yes _ rfl
end Go.Proofs.YtolkmjfkkkiboaaGreat
namespace Go.Ab
open Go.RowKit
end Go.Ab
namespace Go.Proofs.YtolkmjfkkkiboaaGreat
open Go.Ab Go.RowKit Go.MapKept
attribute [local irreducible] ACalls AW ADraw Into fltB fnear
set_option maxRecDepth 100000
theorem eqHeader_same (c:Cert) (h:fewL c):ACalls Tryz.prog 35 [c.hav,c.hav] [] (fun av L=>av = .d (.bool true)∧L=[]):=by
 have h1:=eqNumbers_ok c.bats c.bats h.bats
 have h2:=eqNumbers_ok c.pars c.pars h.pars
 rw [decide_eq_true rfl] at h1 h2
 (refine acalls_go ttOk zOk foOk Tryz.func35 rfl Tryz.ntmps35 rfl false rfl ?_);(conv=>whnf)
 refine rdw ?_;repeat' ((with_reducible apply tw)<;>intro _)
 ·refine h1.mono ?_
  rintro _ _ ⟨rfl,rfl⟩
  conv=>whnf
  refine rdw ?_;repeat' ((with_reducible apply tw)<;>intro _)
  refine h2.mono ?_
  rintro _ _ ⟨rfl,rfl⟩
  conv=>whnf
  exact ⟨rfl,rfl⟩
 all_goals (rename_i hx;exact absurd rfl hx)
theorem eqCert_same (c:Cert) (h:fewL c):ACalls Tryz.prog 119 [c.av,c.av] [] (fun av L=>av = .d (.bool true)∧L=[]):=by
 have h1:=eqHeader_same c h
 have h2:=eqNumbers_ok c.sigs c.sigs h.sigs
 rw [decide_eq_true rfl] at h2
 (refine acalls_go ttOk zOk foOk Tryz.func119 rfl Tryz.ntmps119 rfl false rfl ?_);(conv=>whnf)
 refine h1.mono ?_
 rintro _ _ ⟨rfl,rfl⟩
 conv=>whnf
 refine rdw ?_;repeat' ((with_reducible apply tw)<;>intro _)
 ·refine h2.mono ?_
  rintro _ _ ⟨rfl,rfl⟩
  conv=>whnf
  exact ⟨rfl,rfl⟩
 all_goals (rename_i hx;exact absurd rfl hx)
theorem eqCerts_same (l:List Cert) (hl:few l) (h:∀ c∈l,fewL c):ACalls Tryz.prog 88 [.d (.sl 6 (certsD l)),.d (.sl 6 (certsD l))] [] (fun av L=>av = .d (.bool true)∧L=[]):=by
 have hcl:=certsD_length l
 unfold few at hl
 (refine acalls_go ttOk zOk foOk Tryz.func88 rfl Tryz.ntmps88 rfl false rfl ?_);(conv=>whnf)
 refine rdw ?_;repeat' ((with_reducible apply tw)<;>intro _)
 ·rename_i hx;exact absurd rfl hx
 ·refine loop_go ttOk zOk foOk (σ:=Nat) (fun k=>([(0,.d (.sl 6 (certsD l))),(1,.d (.sl 6 (certsD l))),(5,.d (.int .i64 k))],[])) (fun k=>k≤l.length) (fun k=>l.length - k) [0,1,5] ?_ ?_
  ·conv=>whnf
   exact ⟨0,rfl,rfl,by omega⟩
  ·intro k hk
   conv=>whnf
   rw [hcl]
   refine rdw ?_;repeat' ((with_reducible apply tw)<;>intro _)
   ·rename_i hkl
    refine Exists.elim (⟨_,List.getElem?_eq_getElem (by omega)⟩:∃ c,l[k]? = some c) fun c hc => ?_
    have h1:=eqCert_same c (h c (List.mem_of_getElem? hc))
    ((with_reducible refine draw_pl ttOk zOk foOk mixedOk pl88x6 ?_ ?_);(focus kernel_rfl);(conv=>whnf))
    refine rdw ?_;repeat' ((with_reducible apply tw)<;>intro _)
    ((with_reducible apply rd_intro);(focus (intro K hK;(conv=>whnf);exact ⟨by omega,c.cs,certsD_at hc,hK⟩));(conv=>whnf))
    refine rdw ?_;repeat' ((with_reducible apply tw)<;>intro _)
    ((with_reducible apply rd_intro);(focus (intro K hK;(conv=>whnf);exact ⟨by omega,c.cs,certsD_at hc,hK⟩));(conv=>whnf))
    refine rdw ?_;repeat' ((with_reducible apply tw)<;>intro _)
    refine h1.mono ?_
    rintro _ _ ⟨rfl,rfl⟩
    conv=>whnf
    refine rdw ?_;repeat' ((with_reducible apply tw)<;>intro _)
    exact ⟨k+1,rfl,rfl,by omega,by omega⟩
   ·exact ⟨rfl,rfl⟩
theorem eqDag_same (d:Dag) (hl:few d.certs) (h:∀ c∈d.certs,fewL c):ACalls Tryz.prog 87 [d.av,d.av] [] (fun av L=>av = .d (.bool true)∧L=[]):=by
 have h1:=eqCerts_same d.certs hl h
 (refine acalls_go ttOk zOk foOk Tryz.func87 rfl Tryz.ntmps87 rfl false rfl ?_);(conv=>whnf)
 refine rdw ?_;repeat' ((with_reducible apply tw)<;>intro _)
 ·refine h1.mono ?_
  rintro _ _ ⟨rfl,rfl⟩
  conv=>whnf
  exact ⟨rfl,rfl⟩
 all_goals (rename_i hx;exact absurd rfl hx)
theorem copyDag_ok (d:Dag) (hl:tiny d.certs) (h:∀ c∈d.certs,c.tiny):ACalls Tryz.prog 28 [d.av] [] (fun av L=>av=d.av∧L=[]):=by
 (refine acalls_go ttOk zOk foOk Tryz.func28 rfl Tryz.ntmps28 rfl false rfl ?_);(conv=>whnf)
 refine (copyCerts_ok d.certs hl h).mono ?_
 rintro _ _ ⟨rfl,rfl⟩
 conv=>whnf
 refine rdw ?_;repeat' ((with_reducible apply tw)<;>intro _)
 exact ⟨rfl,rfl⟩
theorem spoil_ok (xs:List Int) (hm:xs.length≤8000000000):ACalls Tryz.prog 50 [.arr 0] [.row 3 1 (nums xs) false] (fun av L=>av = .tup []∧L=[.dead]):=by
 (refine acalls_go ttOk zOk foOk Tryz.func50 rfl Tryz.ntmps50 rfl true rfl ?_);(conv=>whnf)
 refine loop_go2 ttOk zOk foOk (σ:=Nat) (ρ:=List Int) (fun k ys=>([(0,.arr 0),(2,.d (.int .i64 k))],[.row 3 1 (nums ys) false])) (fun k ys=>k≤xs.length∧ys.length=xs.length) (fun k _=>xs.length - k) [0,2] ?_ ?_
 ·conv=>whnf
  exact ⟨0,xs,rfl,rfl,by omega,rfl⟩
 ·rintro k ys ⟨hk,hl⟩
  have hll:=nums_length ys
  conv=>whnf
  refine rdw ?_;repeat' ((with_reducible apply tw)<;>intro _)
  ·rename_i h
   refine ⟨by omega,by rw [hll];show k<_;omega,?_⟩
   conv=>whnf
   refine Exists.elim (⟨_,List.getElem?_eq_getElem (by omega)⟩:∃ y,ys[k]? = some y) fun y hy => ?_
   refine ⟨[.int .i64 y],nums_at hy,?_⟩
   conv=>whnf
   refine rdw ?_;repeat' ((with_reducible apply tw)<;>intro _)
   refine ⟨k+1,ys.set k (-99),rfl,?_,⟨by omega,by simpa using hl⟩,by omega⟩
   simp [nums,List.map_set]
  ·rename_i h
   refine ⟨by rw [nums_length,List.length_singleton];show (_+1) * 8≤_;omega,?_⟩
   conv=>whnf
   exact ⟨rfl,rfl⟩
theorem eqHeader_ok (a b:Cert) (ha:few a.bats∧few a.pars):ACalls Tryz.prog 35 [a.hav,b.hav] [] (fun av L=>av = .d (.bool (decide (a.author=b.author∧a.round=b.round∧a.bats=b.bats∧a.pars=b.pars)))∧L=[]):=by
 have h1:=eqNumbers_ok a.bats b.bats ha.1
 have h2:=eqNumbers_ok a.pars b.pars ha.2
 (refine acalls_go ttOk zOk foOk Tryz.func35 rfl Tryz.ntmps35 rfl false rfl ?_);(conv=>whnf)
 refine rdw ?_;repeat' ((with_reducible apply tw)<;>intro _)
 ·rename_i k1 k2
  (refine (h1).mono ?_;rintro _ _ ⟨rfl,rfl⟩;(conv=>whnf))
  refine rdw ?_;repeat' ((with_reducible apply tw)<;>intro _)
  ·rename_i k3
   (refine (h2).mono ?_;rintro _ _ ⟨rfl,rfl⟩;(conv=>whnf))
   exact ⟨boolEq (by simp only [decide_eq_true_iff];exact ⟨fun h=>⟨k1,k2,k3,h⟩,fun h=>h.2.2.2⟩),rfl⟩
  ·rename_i k3
   exact ⟨by rw [decide_eq_false (fun h=>k3 h.2.2.1)];rfl,rfl⟩
 ·rename_i k1 k2
  exact ⟨by rw [decide_eq_false (fun h=>k2 h.2.1)];rfl,rfl⟩
 ·rename_i k1
  exact ⟨by rw [decide_eq_false (fun h=>k1 h.1)];rfl,rfl⟩
open Classical in
theorem rVote_ok (v:Vote):ACalls Tryz.prog 67 [v.av] [] (fun av L=>av = .d (.bool (decide (okVote v)))∧L=[]):=by
 (refine acalls_go ttOk zOk foOk Tryz.func67 rfl Tryz.ntmps67 rfl false rfl ?_);(conv=>whnf)
 refine rdw ?_;repeat' ((with_reducible apply tw)<;>intro _)
 all_goals first
  | exact ⟨by rw [decide_eq_false (fun h:okVote v=>by have:=h.round;have:=h.author;omega)];rfl,rfl⟩
  | skip
 (refine (rDigest_ok v.digest).mono ?_;rintro _ _ ⟨rfl,rfl⟩;(conv=>whnf))
 exact ⟨boolEq (by simp only [decide_eq_true_iff];exact ⟨fun h=>⟨by omega,by omega,h⟩,fun h=>h.digest⟩),rfl⟩
set_option maxHeartbeats 4000000 in
open Classical in
theorem rVotes19_ok (l:List Vote) (hl:few l):ACalls Tryz.prog 32 [.d (.sl 3 (votesD l))] [] (fun av L=>av = .d (.bool (decide (okVotes l)))∧L=[]):=by
 have hcl:=votesD_length l
 unfold few at hl
 (refine acalls_go ttOk zOk foOk Tryz.func32 rfl Tryz.ntmps32 rfl false rfl ?_);(conv=>whnf)
 refine rdw ?_;repeat' ((with_reducible apply tw)<;>intro _)
 ·rename_i h0
  replace h0:((votesD l).length:Int)>65536:=h0
  exact ⟨by rw [decide_eq_false (fun h:okVotes l=>by have:=h.len;omega)];rfl,rfl⟩
 ·rename_i h0
  replace h0:¬((votesD l).length:Int)>65536:=h0
  refine loop_go ttOk zOk foOk (σ:=Nat) (fun j=>([(0,.d (.sl 3 (votesD l))),(3,.d (.int .i64 j))],[])) (fun j=>j≤l.length∧mayV l j) (fun j=>l.length - j) [0,3] ?_ ?_
  ·conv=>whnf
   exact ⟨0,rfl,rfl,Nat.zero_le _,⟨by simp,by simp [sortedV]⟩⟩
  ·rintro j ⟨hj,hm⟩
   conv=>whnf
   refine rdw ?_;repeat' ((with_reducible apply tw)<;>intro _)
   ·rename_i hjl
    replace hjl:(j:Int)<((votesD l).length:Int):=hjl
    refine Exists.elim (⟨_,List.getElem?_eq_getElem (by omega)⟩:∃ v,l[j]? = some v) fun v hv => ?_
    ((with_reducible refine draw_pl ttOk zOk foOk mixedOk pl32x6 ?_ ?_);(focus kernel_rfl);(conv=>whnf))
    refine rdw ?_;repeat' ((with_reducible apply tw)<;>intro _)
    ((with_reducible apply rd_intro);(focus (intro K hK;(conv=>whnf);exact ix_map hv (by first|rfl|omega) hK));(conv=>whnf))
    refine rdw ?_;repeat' ((with_reducible apply tw)<;>intro _)
    refine (rVote_ok v).mono ?_
    rintro _ _ ⟨rfl,rfl⟩
    by_cases hov:okVote v
    ·rw [decide_eq_true hov]
     conv=>whnf
     refine rdw ?_;repeat' ((with_reducible apply tw)<;>intro _)
     ·rename_i hj0
      replace hj0:(j:Int)>0:=hj0
      refine Exists.elim (⟨_,List.getElem?_eq_getElem (by omega)⟩:∃ b,l[j - 1]? = some b) fun y hy => ?_
      ((with_reducible apply rd_intro);(focus (intro K hK;(conv=>whnf);exact ⟨by omega,y.cs,(by rw [show ((j:Int) - 1).toNat=j - 1 by omega];exact votesD_at hy),hK⟩));(conv=>whnf))
      repeat' (first|(first|((with_reducible first|apply rd_intro|apply gd_and);(focus ((conv=>whnf)<;>first|rfl|(intro K hK;(conv=>whnf);first|exact hK|exact z_wrap (by omega) hK)));conv=>whnf)|((with_reducible apply z_wrap);(focus omega);conv=>whnf)|((with_reducible first|apply mt_dec|apply mt_eq|apply mt_ne|apply mt_not|apply mt_any)<;>(intro _;conv=>whnf)))|((with_reducible apply rd_intro);(focus (intro K hK;(conv=>whnf);exact ⟨by omega,y.cs,(by rw [show ((j:Int) - 1).toNat=j - 1 by omega];exact votesD_at hy),hK⟩));(conv=>whnf))|((with_reducible apply rd_intro);(focus (intro K hK;(conv=>whnf);exact ⟨by omega,v.cs,votesD_at hv,hK⟩));(conv=>whnf))|((with_reducible apply gd_and);(focus ((conv=>whnf);intro K hK;(conv=>whnf);exact ⟨by omega,y.cs,(by rw [show ((j:Int) - 1).toNat=j - 1 by omega];exact votesD_at hy),hK⟩));(conv=>whnf))|((with_reducible apply gd_and);(focus ((conv=>whnf);intro K hK;(conv=>whnf);exact ⟨by omega,v.cs,votesD_at hv,hK⟩));(conv=>whnf)))
      refine (rBefore_ok y.round y.author v.round v.author).mono ?_
      rintro _ _ ⟨rfl,rfl⟩
      by_cases hb:y.round<v.round∨y.round=v.round∧y.author<v.author
      ·rw [decide_eq_true hb]
       conv=>whnf
       refine rdw ?_;repeat' ((with_reducible apply tw)<;>intro _)
       exact ⟨j+1,rfl,rfl,⟨by omega,mayV_succ hv hm hov (fun y' _ hy'=>by rw [hy] at hy';cases hy';exact beforeV_iff.2 hb)⟩,by omega⟩
      ·rw [decide_eq_false hb]
       have hno:¬okVotes l:=fun hh=>by
        have hjl2:=(List.getElem?_eq_some_iff.1 hv).1
        have:=List.pairwise_iff_getElem.1 hh.sorted (j - 1) j (by omega) (by omega) (by omega)
        rw [(List.getElem?_eq_some_iff.1 hv).2,(List.getElem?_eq_some_iff.1 hy).2] at this
        exact hb (beforeV_iff.1 this)
       conv=>whnf
       refine rdw ?_;repeat' ((with_reducible apply tw)<;>intro _)
       exact ⟨by rw [decide_eq_false hno];rfl,rfl⟩
     ·rename_i hj0
      replace hj0:¬(j:Int)>0:=hj0
      exact ⟨j+1,rfl,rfl,⟨by omega,mayV_succ hv hm hov (fun y' h0 _=>by omega)⟩,by omega⟩
    ·rw [decide_eq_false hov]
     conv=>whnf
     refine rdw ?_;repeat' ((with_reducible apply tw)<;>intro _)
     exact ⟨by rw [decide_eq_false (fun hh:okVotes l=>hov (hh.votes v (List.mem_of_getElem? hv)))];rfl,rfl⟩
   ·rename_i hjl
    replace hjl:¬(j:Int)<((votesD l).length:Int):=hjl
    have hjl2:l.take j=l:=List.take_of_length_le (by omega)
    have:okVotes l:=⟨by omega,fun v hv=>hm.votes v (by rwa [hjl2]),by have:=hm.sorted;rwa [hjl2] at this⟩
    exact ⟨by rw [decide_eq_true this];rfl,rfl⟩
set_option maxHeartbeats 2000000 in
open Classical in
theorem rCerts_ok (n:Int) (l:List Cert) (hl:few l) (hc:∀ c∈l,fewL c):ACalls Tryz.prog 34 [.d (.sl 6 (certsD l)),.d (.int .i64 n)] [] (fun av L=>av = .d (.bool (decide (okLate n l)))∧L=[]):=by
 have hcl:=certsD_length l
 have hl':=hl
 unfold few at hl'
 (refine acalls_go ttOk zOk foOk Tryz.func34 rfl Tryz.ntmps34 rfl false rfl ?_);(conv=>whnf)
 refine loop_go ttOk zOk foOk (σ:=Nat) (fun j=>([(0,.d (.sl 6 (certsD l))),(1,.d (.int .i64 n)),(5,.d (.int .i64 j))],[])) (fun j=>j≤l.length∧risingC (l.take j)∧∀ c∈l.take j,okCert n c) (fun j=>l.length - j) [0,1,5] ?_ ?_
 ·conv=>whnf
  exact ⟨0,rfl,rfl,Nat.zero_le _,by simp [risingC],by simp⟩
 ·rintro j ⟨hj,hr,ho⟩
  conv=>whnf
  refine rdw ?_;repeat' ((with_reducible apply tw)<;>intro _)
  ·rename_i hjl
   replace hjl:(j:Int)<((certsD l).length:Int):=hjl
   refine Exists.elim (⟨_,List.getElem?_eq_getElem (by omega)⟩:∃ c,l[j]? = some c) fun c hcj => ?_
   have hcm:=List.mem_of_getElem? hcj
   have hm:=rCert_ok c (hc c hcm) n
   have hsn:l.take (j+1)=l.take j++[c]:=by rw [List.take_add_one,hcj];rfl
   have hnext:okCert n c→(∀ b,0<j→l[j - 1]? = some b→b.digest<c.digest)→risingC (l.take (j+1))∧∀ c∈l.take (j+1),okCert n c:=by
    intro h1 h2
    rw [hsn]
    refine ⟨List.pairwise_append.2 ⟨hr,by simp,fun x hx y hy => ?_⟩,fun x hx => ?_⟩
    ·simp at hy
     subst hy
     obtain ⟨i,hi,rfl⟩:=List.mem_take_iff_getElem.1 hx
     have hb:=h2 l[j - 1] (by omega) (List.getElem?_eq_getElem (by omega))
     by_cases hij:i=j - 1
     ·subst hij;exact hb
     ·have hs:=List.pairwise_iff_getElem.1 hr i (j - 1) (by simp;omega) (by simp;omega) (by omega)
      simp only [List.getElem_take] at hs
      omega
    ·rcases List.mem_append.1 hx with hx|hx
     ·exact ho x hx
     ·simp at hx;subst hx;exact h1
   ((with_reducible refine draw_pl ttOk zOk foOk mixedOk pl34x4 ?_ ?_);(focus kernel_rfl);(conv=>whnf))
   refine rdw ?_;repeat' ((with_reducible apply tw)<;>intro _)
   ((with_reducible apply rd_intro);(focus (intro K hK;(conv=>whnf);exact ix_map hcj (by first|rfl|omega) hK));(conv=>whnf))
   refine rdw ?_;repeat' ((with_reducible apply tw)<;>intro _)
   refine hm.mono ?_
   rintro _ _ ⟨rfl,rfl⟩
   by_cases hoc:okCert n c
   ·rw [decide_eq_true hoc]
    conv=>whnf
    refine rdw ?_;repeat' ((with_reducible apply tw)<;>intro _)
    ·rename_i hj0
     replace hj0:(j:Int)>0:=hj0
     refine Exists.elim (⟨_,List.getElem?_eq_getElem (by omega)⟩:∃ b,l[j - 1]? = some b) fun b hb => ?_
     repeat' (first|(first|((with_reducible first|apply rd_intro|apply gd_and);(focus ((conv=>whnf)<;>first|rfl|(intro K hK;(conv=>whnf);first|exact hK|exact z_wrap (by omega) hK)));conv=>whnf)|((with_reducible apply z_wrap);(focus omega);conv=>whnf)|((with_reducible first|apply mt_dec|apply mt_eq|apply mt_ne|apply mt_not|apply mt_any)<;>(intro _;conv=>whnf)))|((with_reducible apply rd_intro);(focus (intro K hK;(conv=>whnf);exact ⟨by omega,b.cs,(by rw [show ((j:Int) - 1).toNat=j - 1 by omega];exact certsD_at hb),hK⟩));(conv=>whnf))|((with_reducible apply rd_intro);(focus (intro K hK;(conv=>whnf);exact ⟨by omega,c.cs,certsD_at hcj,hK⟩));(conv=>whnf))|((with_reducible apply gd_and);(focus ((conv=>whnf);intro K hK;(conv=>whnf);exact ⟨by omega,b.cs,(by rw [show ((j:Int) - 1).toNat=j - 1 by omega];exact certsD_at hb),hK⟩));(conv=>whnf))|((with_reducible apply gd_and);(focus ((conv=>whnf);intro K hK;(conv=>whnf);exact ⟨by omega,c.cs,certsD_at hcj,hK⟩));(conv=>whnf)))
     ·rename_i h
      replace h:b.digest≥c.digest:=h
      have hno:¬okLate n l:=fun hh=>by
       have:=List.pairwise_iff_getElem.1 hh.ris (j - 1) j (by omega) (by omega) (by omega)
       rw [(List.getElem?_eq_some_iff.1 hb).2,(List.getElem?_eq_some_iff.1 hcj).2] at this
       omega
      exact ⟨by rw [decide_eq_false hno];rfl,rfl⟩
     ·rename_i h
      replace h:¬b.digest≥c.digest:=h
      exact ⟨j+1,rfl,rfl,⟨by omega,hnext hoc (fun b' _ hb'=>by rw [hb] at hb';cases hb';omega)⟩,by omega⟩
    ·rename_i hj0
     replace hj0:¬(j:Int)>0:=hj0
     exact ⟨j+1,rfl,rfl,⟨by omega,hnext hoc (fun b' h0 _=>by omega)⟩,by omega⟩
   ·rw [decide_eq_false hoc]
    conv=>whnf
    refine rdw ?_;repeat' ((with_reducible apply tw)<;>intro _)
    exact ⟨by rw [decide_eq_false (fun hh:okLate n l=>hoc (hh.certs c hcm))];rfl,rfl⟩
  ·rename_i hjl
   replace hjl:¬(j:Int)<((certsD l).length:Int):=hjl
   have hjl2:l.take j=l:=List.take_of_length_le (by omega)
   rw [hjl2] at hr ho
   refine ⟨boolEq ?_,rfl⟩
   simp only [decide_eq_true_iff]
   exact ⟨fun h=>⟨by omega,hr,ho⟩,fun h=>by have:=h.len;omega⟩
theorem copyVotes_ok (l:List Vote) (hl:l.length≤1099511627776):ACalls Tryz.prog 27 [.d (.sl 3 (votesD l))] [] (fun av L=>av = .d (.sl 3 (votesD l))∧L=[]):=by
 have hx:=votesD_length l
 (refine acalls_go ttOk zOk foOk Tryz.func27 rfl Tryz.ntmps27 rfl false rfl ?_);(conv=>whnf)
 refine loop_go ttOk zOk foOk (σ:=Nat) (fun j=>([(0,.d (.sl 3 (votesD l))),(3,.arr 0),(4,.d (.int .i64 j))],[.row 106 3 (votesD (l.take j)) false])) (fun j=>j≤l.length) (fun j=>l.length - j) [0,3,4] ?_ ?_
 ·conv=>whnf
  exact ⟨0,rfl,rfl,Nat.zero_le _⟩
 ·intro j hj
  have hlt:=List.length_take_le' j l
  have hxl:=votesD_length (l.take j)
  conv=>whnf
  refine rdw ?_;repeat' ((with_reducible apply tw)<;>intro _)
  ·rename_i h
   replace h:(j:Int)<((votesD l).length:Int):=h
   refine Exists.elim (⟨_,List.getElem?_eq_getElem (by omega)⟩:∃ c,l[j]? = some c) fun a ha => ?_
   refine ⟨by omega,a.cs,votesD_at ha,?_⟩
   conv=>whnf
   refine rdw ?_;repeat' ((with_reducible apply tw)<;>intro _)
   refine ⟨by show ((votesD (l.take j)).length+1) * 24≤_;omega,?_⟩
   conv=>whnf
   refine rdw ?_;repeat' ((with_reducible apply tw)<;>intro _)
   refine ⟨j+1,rfl,?_,by omega,by omega⟩
   rw [List.take_add_one,ha,show votesD (l.take j++(some a).toList)=votesD (l.take j)++[a.cs] by simp [votesD]]
   rfl
  ·rename_i h
   replace h:¬(j:Int)<((votesD l).length:Int):=h
   rw [List.take_of_length_le (by omega)]
   exact ⟨rfl,rfl⟩
theorem copyPrim_ok (p:Prim) (h:p.tiny):ACalls Tryz.prog 15 [p.av] [] (fun av L=>av=p.av∧L=[]):=by
 (refine acalls_go ttOk zOk foOk Tryz.func15 rfl Tryz.ntmps15 rfl false rfl ?_);(conv=>whnf)
 refine rdw ?_;repeat' ((with_reducible apply tw)<;>intro _)
 (refine (copyHeader_ok p.mine h.mine).mono ?_;rintro _ _ ⟨rfl,rfl⟩;(conv=>whnf))
 refine rdw ?_;repeat' ((with_reducible apply tw)<;>intro _)
 (refine (copyNumbers_ok p.acks h.acks).mono ?_;rintro _ _ ⟨rfl,rfl⟩;(conv=>whnf))
 refine rdw ?_;repeat' ((with_reducible apply tw)<;>intro _)
 (refine (copyVotes_ok p.votes h.votes).mono ?_;rintro _ _ ⟨rfl,rfl⟩;(conv=>whnf))
 refine rdw ?_;repeat' ((with_reducible apply tw)<;>intro _)
 (refine (copyDag_ok p.dag h.dag.1 h.dag.2).mono ?_;rintro _ _ ⟨rfl,rfl⟩;(conv=>whnf))
 refine rdw ?_;repeat' ((with_reducible apply tw)<;>intro _)
 (refine (copyCerts_ok p.late h.late.1 h.late.2).mono ?_;rintro _ _ ⟨rfl,rfl⟩;(conv=>whnf))
 refine rdw ?_;repeat' ((with_reducible apply tw)<;>intro _)
 exact ⟨rfl,rfl⟩
set_option maxHeartbeats 4000000 in
open Classical in
theorem rMay20_ok (p:Prim) (hok:p.ok):ACalls Tryz.prog 16 [p.av] [] (fun av L=>av = .d (.bool (decide (May p)))∧L=[]):=by
 have hi:=rMay_ok p.nodes
 have hnu:=rNum_ok p.age
 have hv:=rVotes19_ok p.votes hok.votes
 have hd:=rMayDag_full p.dag hok.dag
 have hl:=rCerts_ok p.nodes p.late hok.late.1 (fun c hc=>ok_fewL (hok.late.2 c hc))
 have he:=eqHeader_ok p.mine cz0 ⟨hok.mine.bats.1,hok.mine.pars.1⟩
 have hal:=nums_length p.acks
 (refine acalls_go ttOk zOk foOk Tryz.func16 rfl Tryz.ntmps16 rfl false rfl ?_);(conv=>whnf)
 refine rdw ?_;repeat' ((with_reducible apply tw)<;>intro _)
 refine hi.mono ?_
 rintro _ _ ⟨rfl,rfl⟩
 cases hn:isN p.nodes with
 | false =>
   conv=>whnf
   refine rdw ?_;repeat' ((with_reducible apply tw)<;>intro _)
   exact ⟨by rw [decide_eq_false (fun h:May p=>by have:=h.isn;rw [hn] at this;cases this)];rfl,rfl⟩
 | true =>
   have hq:=rQuorum_ok p.nodes hn
   conv=>whnf
   refine rdw ?_;repeat' ((with_reducible apply tw)<;>intro _)
   all_goals first
    | exact ⟨by rw [decide_eq_false (fun h:May p=>by have:=h.id;have:=h.round;omega)];rfl,rfl⟩
    | skip
   refine hnu.mono ?_
   rintro _ _ ⟨rfl,rfl⟩
   by_cases k1:0≤p.age∧p.age≤1099511627776
   ·rw [decide_eq_true k1]
    conv=>whnf
    refine rdw ?_;repeat' ((with_reducible apply tw)<;>intro _)
    all_goals first
     | exact ⟨by rw [decide_eq_false (fun h:May p=>by have:=h.said;omega)];rfl,rfl⟩
     | skip
    refine hv.mono ?_
    rintro _ _ ⟨rfl,rfl⟩
    by_cases k2:okVotes p.votes
    ·rw [decide_eq_true k2]
     conv=>whnf
     refine rdw ?_;repeat' ((with_reducible apply tw)<;>intro _)
     ·rename_i k3
      exact ⟨by rw [decide_eq_false (fun h:May p=>k3 h.same)];rfl,rfl⟩
     ·rename_i k3
      refine hd.mono ?_
      rintro _ _ ⟨rfl,rfl⟩
      by_cases k4:Valid p.dag
      ·rw [isV_yes k4]
       conv=>whnf
       refine rdw ?_;repeat' ((with_reducible apply tw)<;>intro _)
       refine hl.mono ?_
       rintro _ _ ⟨rfl,rfl⟩
       by_cases k5:okLate p.nodes p.late
       ·rw [decide_eq_true k5]
        have key:okMine p→May p:=fun h=>⟨hn,by omega,by omega,k1,by omega,h,k2,k4,k3,k5⟩
        conv=>whnf
        refine rdw ?_;repeat' ((with_reducible apply tw)<;>intro _)
        ·rename_i k6
         refine (acalls_nw he (.cons (.refl _) (.cons (.agg ?_) .nil))).mono ?_
         ·repeat (first|exact .nil|refine .cons (.refl _) ?_|refine .cons (.nils _ (by decide)) ?_)
         rintro _ _ ⟨rfl,rfl⟩
         conv=>whnf
         refine rdw ?_;repeat' ((with_reducible apply tw)<;>intro _)
         ·rename_i k7
          refine ⟨boolEq ?_,rfl⟩
          simp only [beq_iff_eq,decide_eq_true_iff]
          constructor
          ·intro h
           have h:((nums p.acks).length:Int)=0:=h
           have e3:p.acks=[]:=List.eq_nil_of_length_eq_zero (by omega)
           exact key ⟨fun _=>⟨k7.1,k7.2.1,k7.2.2.1,k7.2.2.2,e3⟩,fun h=>absurd k6 h,fun h=>absurd k6 h,fun h=>absurd k6 h,fun h=>absurd k6 h,fun h=>absurd k6 h,fun h=>absurd k6 h⟩
          ·intro h
           obtain ⟨_,_,_,_,e3⟩:=h.mine.none k6
           show ((nums p.acks).length:Int)=0
           rw [e3]
           rfl
         ·rename_i k7
          exact ⟨by rw [decide_eq_false (fun h:May p=>k7 (by have:=h.mine.none k6;exact ⟨this.1,this.2.1,this.2.2.1,this.2.2.2.1⟩))];rfl,rfl⟩
        ·rename_i k6
         ((with_reducible refine draw_pl ttOk zOk foOk mixedOk pl16x5 ?_ ?_);(focus kernel_rfl);(conv=>whnf))
         refine rdw ?_;repeat' ((with_reducible apply tw)<;>intro _)
         (refine (rDigest_ok p.dig).mono ?_;rintro _ _ ⟨rfl,rfl⟩;(conv=>whnf))
         refine rdw ?_;repeat' ((with_reducible apply tw)<;>intro _)
         ·rename_i k7
          (refine (rHeader_ok p.mine (ok_fewL hok.mine) p.nodes).mono ?_;rintro _ _ ⟨rfl,rfl⟩;(conv=>whnf))
          refine rdw ?_;repeat' ((with_reducible apply tw)<;>intro _)
          ·rename_i k8 k9 k10
           (refine (rRising_ok p.acks hok.acks).mono ?_;rintro _ _ ⟨rfl,rfl⟩;(conv=>whnf))
           refine rdw ?_;repeat' ((with_reducible apply tw)<;>intro _)
           ·rename_i k11
            (refine (rBetween_ok p.acks hok.acks 1 p.nodes).mono ?_;rintro _ _ ⟨rfl,rfl⟩;(conv=>whnf))
            refine rdw ?_;repeat' ((with_reducible apply tw)<;>intro _)
            ·rename_i k12
             (refine (hq).mono ?_;rintro _ _ ⟨rfl,rfl⟩;(conv=>whnf))
             refine rdw ?_;repeat' ((with_reducible apply tw)<;>intro _)
             refine ⟨boolEq ?_,rfl⟩
             simp only [decide_eq_true_iff,hal]
             exact ⟨fun h=>key ⟨fun h6=>absurd h6 k6,fun _=>k7,fun _=>k8,fun _=>k9,fun _=>k10,fun _=>⟨k11,k12⟩,fun _=>h⟩,fun h=>h.mine.less k6⟩
            ·rename_i k12
             exact ⟨by rw [decide_eq_false (fun h:May p=>k12 (h.mine.acks k6).2)];rfl,rfl⟩
           ·rename_i k11
            exact ⟨by rw [decide_eq_false (fun h:May p=>k11 (h.mine.acks k6).1)];rfl,rfl⟩
          ·rename_i k8 k9 k10
           exact ⟨by rw [decide_eq_false (fun h:May p=>k10 (h.mine.round k6))];rfl,rfl⟩
          ·rename_i k8 k9
           exact ⟨by rw [decide_eq_false (fun h:May p=>k9 (h.mine.author k6))];rfl,rfl⟩
          ·rename_i k8
           exact ⟨by rw [decide_eq_false (fun h:May p=>k8 (h.mine.head k6))];rfl,rfl⟩
         ·rename_i k7
          exact ⟨by rw [decide_eq_false (fun h:May p=>k7 (h.mine.dig k6))];rfl,rfl⟩
       ·rw [decide_eq_false k5]
        conv=>whnf
        refine rdw ?_;repeat' ((with_reducible apply tw)<;>intro _)
        exact ⟨by rw [decide_eq_false (fun h:May p=>k5 h.late)];rfl,rfl⟩
      ·rw [isV_no k4]
       conv=>whnf
       refine rdw ?_;repeat' ((with_reducible apply tw)<;>intro _)
       exact ⟨by rw [decide_eq_false (fun h:May p=>k4 h.dag)];rfl,rfl⟩
    ·rw [decide_eq_false k2]
     conv=>whnf
     refine rdw ?_;repeat' ((with_reducible apply tw)<;>intro _)
     exact ⟨by rw [decide_eq_false (fun h:May p=>k2 h.votes)];rfl,rfl⟩
   ·rw [decide_eq_false k1]
    conv=>whnf
    refine rdw ?_;repeat' ((with_reducible apply tw)<;>intro _)
    exact ⟨by rw [decide_eq_false (fun h:May p=>k1 h.age)];rfl,rfl⟩
end Go.Proofs.YtolkmjfkkkiboaaGreat
