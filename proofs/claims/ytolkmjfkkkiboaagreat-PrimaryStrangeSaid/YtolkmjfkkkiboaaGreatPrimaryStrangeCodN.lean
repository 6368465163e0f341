/- PrimaryStrange: contracts. -/
import Derived.Test.YtolkmjfkkkiboaaGreatPrimaryStrangeCodM
set_option linter.unusedVariables false
set_option linter.unusedSimpArgs false
namespace Go.Proofs.YtolkmjfkkkiboaaGreat
open Go.Ab Go.RowKit Go.MapKept
attribute [local irreducible] ACalls AW ADraw Into fltB fnear
set_option maxRecDepth 100000
theorem copyTxs_ok (l:List Tx) (hl:l.length≤1099511627776):ACalls Tryz.prog 163 [.d (.sl 4 (txsD l))] [] (fun av L=>av = .d (.sl 4 (txsD l))∧L=[]):=by
 have hx:=txsD_len l
 (refine acalls_go ttOk zOk foOk Tryz.func163 rfl Tryz.ntmps163 rfl false rfl ?_);(conv=>whnf)
 refine loop_go ttOk zOk foOk (σ:=Nat) (fun j=>([(0,.d (.sl 4 (txsD l))),(3,.arr 0),(4,.d (.int .i64 j))],[.row 180 4 (txsD (l.take j)) false])) (fun j=>j≤l.length) (fun j=>l.length - j) [0,3,4] ?_ ?_
 ·conv=>whnf
  exact ⟨0,rfl,rfl,Nat.zero_le _⟩
 ·intro j hj
  have hlt:=List.length_take_le' j l
  have hxl:=txsD_len (l.take j)
  conv=>whnf
  refine rdz ?_;repeat' ((with_reducible apply tw)<;>intro _)
  ·rename_i h
   replace h:(j:Int)<((txsD l).length:Int):=h
   refine Exists.elim (⟨_,List.getElem?_eq_getElem (by omega)⟩:∃ c,l[j]? = some c) fun a ha => ?_
   refine ⟨by omega,a.cs,txsD_at ha,?_⟩
   conv=>whnf
   refine rdz ?_;repeat' ((with_reducible apply tw)<;>intro _)
   refine ⟨by show ((txsD (l.take j)).length+1) * 48≤_;omega,?_⟩
   conv=>whnf
   refine rdz ?_;repeat' ((with_reducible apply tw)<;>intro _)
   refine ⟨j+1,rfl,?_,by omega,by omega⟩
   rw [List.take_add_one,ha,show txsD (l.take j++(some a).toList)=txsD (l.take j)++[a.cs] by simp [txsD]]
   rfl
  ·rename_i h
   replace h:¬(j:Int)<((txsD l).length:Int):=h
   rw [List.take_of_length_le (by omega)]
   exact ⟨rfl,rfl⟩
theorem copyBatch_ok (m:Msg) (hl:m.txs.length≤1099511627776):ACalls Tryz.prog 113 [m.bav] [] (fun av L=>av=m.bav∧L=[]):=by
 (refine acalls_go ttOk zOk foOk Tryz.func113 rfl Tryz.ntmps113 rfl false rfl ?_);(conv=>whnf)
 refine rdz ?_;repeat' ((with_reducible apply tw)<;>intro _)
 (refine (copyTxs_ok m.txs hl).mono ?_;rintro _ _ ⟨rfl,rfl⟩;(conv=>whnf))
 refine rdz ?_;repeat' ((with_reducible apply tw)<;>intro _)
 exact ⟨rfl,rfl⟩
structure Msg.small (m:Msg):Prop where
 txs:m.txs.length≤3000
 head:m.head.bats.length≤3000∧m.head.pars.length≤3000
 cert:m.cert.bats.length≤3000∧m.cert.pars.length≤3000∧m.cert.sigs.length≤3000
 digs:m.digs.length≤3000
 sigs:m.head.sigs.length≤3000
theorem Msg.small.htiny {m:Msg} (h:m.small):m.head.tiny:=⟨by have:=h.head;unfold Go.Proofs.YtolkmjfkkkiboaaGreat.tiny;omega,by have:=h.head;unfold Go.Proofs.YtolkmjfkkkiboaaGreat.tiny;omega,by have:=h.sigs;unfold Go.Proofs.YtolkmjfkkkiboaaGreat.tiny;omega⟩
theorem Msg.small.ctiny {m:Msg} (h:m.small):m.cert.tiny:=⟨by have:=h.cert;unfold Go.Proofs.YtolkmjfkkkiboaaGreat.tiny;omega,by have:=h.cert;unfold Go.Proofs.YtolkmjfkkkiboaaGreat.tiny;omega,by have:=h.cert;unfold Go.Proofs.YtolkmjfkkkiboaaGreat.tiny;omega⟩
theorem copyMsg_ok (m:Msg) (h:m.small):ACalls Tryz.prog 57 [m.av] [] (fun av L=>av=m.av∧L=[]):=by
 (refine acalls_go ttOk zOk foOk Tryz.func57 rfl Tryz.ntmps57 rfl false rfl ?_);(conv=>whnf)
 refine rdz ?_;repeat' ((with_reducible apply tw)<;>intro _)
 (refine (copyBatch_ok m (by have:=h.txs;omega)).mono ?_;rintro _ _ ⟨rfl,rfl⟩;(conv=>whnf))
 refine rdz ?_;repeat' ((with_reducible apply tw)<;>intro _)
 (refine (copyHeader_ok m.head h.htiny).mono ?_;rintro _ _ ⟨rfl,rfl⟩;(conv=>whnf))
 refine rdz ?_;repeat' ((with_reducible apply tw)<;>intro _)
 (refine (copyCert_ok m.cert h.ctiny).mono ?_;rintro _ _ ⟨rfl,rfl⟩;(conv=>whnf))
 refine rdz ?_;repeat' ((with_reducible apply tw)<;>intro _)
 (refine (copyNumbers_ok m.digs (by have:=h.digs;unfold tiny;omega)).mono ?_;rintro _ _ ⟨rfl,rfl⟩;(conv=>whnf))
 refine rdz ?_;repeat' ((with_reducible apply tw)<;>intro _)
 exact ⟨rfl,rfl⟩
theorem rRound_ok (d:Dag) (hd:few d.certs) (hl:d.certs.length≤1099511627776) (hc:∀ c∈d.certs,c.tiny) (r:Int):ACalls Tryz.prog 108 [d.av,.d (.int .i64 r)] [] (fun av L=>av = .d (.sl 6 (certsD (ofR d.certs r)))∧L=[]):=by
 have hcl:=certsD_length d.certs
 (refine acalls_go ttOk zOk foOk Tryz.func108 rfl Tryz.ntmps108 rfl false rfl ?_);(conv=>whnf)
 refine loop_go ttOk zOk foOk (σ:=Nat) (fun j=>([(1,.d (.int .i64 r)),(2,.ptr 0 0),(5,.arr 1),(6,.d (.int .i64 j))],[.cells d.cells,.row 47 6 (certsD (ofR (d.certs.take j) r)) false])) (fun j=>j≤d.certs.length) (fun j=>d.certs.length - j) [1,2,5,6] ?_ ?_
 ·conv=>whnf
  exact ⟨0,rfl,rfl,Nat.zero_le _⟩
 ·intro j hj
  have hlt:(ofR (d.certs.take j) r).length≤d.certs.length:=Nat.le_trans (List.length_filter_le ..) (List.length_take_le' ..)
  have hxl:=certsD_length (ofR (d.certs.take j) r)
  conv=>whnf
  refine rdz ?_;repeat' ((with_reducible apply tw)<;>intro _)
  ·rename_i h
   replace h:(j:Int)<((certsD d.certs).length:Int):=h
   refine Exists.elim (⟨_,List.getElem?_eq_getElem (by omega)⟩:∃ c,d.certs[j]? = some c) fun a ha => ?_
   have hsn:ofR (d.certs.take (j+1)) r=ofR (d.certs.take j) r++(if a.round=r then [a] else []):=by
    unfold ofR
    rw [List.take_add_one,ha,List.filter_append]
    by_cases h:a.round=r<;>simp [h]
   refine ⟨by omega,a.cs,certsD_at ha,?_⟩
   conv=>whnf
   refine rdz ?_;repeat' ((with_reducible apply tw)<;>intro _)
   ·rename_i h1
    replace h1:a.round=r:=h1
    rw [if_pos h1] at hsn
    refine ⟨by omega,a.cs,certsD_at ha,?_⟩
    conv=>whnf
    refine rdz ?_;repeat' ((with_reducible apply tw)<;>intro _)
    (refine (copyCert_ok a (hc a (List.mem_of_getElem? ha))).mono ?_;rintro _ _ ⟨rfl,rfl⟩;(conv=>whnf))
    refine rdz ?_;repeat' ((with_reducible apply tw)<;>intro _)
    refine ⟨by show ((certsD (ofR (d.certs.take j) r)).length+1) * 96≤_;omega,?_⟩
    conv=>whnf
    refine rdz ?_;repeat' ((with_reducible apply tw)<;>intro _)
    refine ⟨j+1,rfl,?_,by omega,by omega⟩
    rw [hsn,show certsD (ofR (d.certs.take j) r++[a])=certsD (ofR (d.certs.take j) r)++[a.cs] by simp [certsD]]
    rfl
   ·rename_i h1
    replace h1:¬a.round=r:=h1
    rw [if_neg h1,List.append_nil] at hsn
    exact ⟨j+1,rfl,by rw [hsn];rfl,by omega,by omega⟩
  ·rename_i h
   replace h:¬(j:Int)<((certsD d.certs).length:Int):=h
   rw [List.take_of_length_le (by omega)]
   exact ⟨rfl,rfl⟩
theorem pass_sub (d:Dag) (l:List Cert):∀ j,(passD d (l.take j)).2.Sublist (l.take j)
 | 0=>by simp [passD]
 | j+1=>by
   have ih:=pass_sub d l j
   cases hc:l[j]? with
   | none =>
     have hl:l.length≤j:=by simpa using hc
     rw [List.take_of_length_le (by omega)] at ih ⊢
     exact ih
   | some c =>
     rw [passD_snoc hc,List.take_add_one,hc]
     unfold stepD
     simp only
     split
     ·exact List.Sublist.append ih (List.Sublist.refl _)
     ·exact ih.trans (List.sublist_append_left ..)
theorem pass_mem (d:Dag) (l:List Cert):∀ j,∀ c∈d.certs,c∈(passD d (l.take j)).1.certs
 | 0,c,h=>by simpa [passD] using h
 | j+1,c,h=>by
   have ih:=pass_mem d l j c h
   cases hc:l[j]? with
   | none =>
     have hl:l.length≤j:=by simpa using hc
     rw [List.take_of_length_le (by omega)] at ih ⊢
     exact ih
   | some x =>
     rw [passD_snoc hc]
     exact mem_putD ih
theorem pass_all {d:Dag} {l:List Cert} (h:Fine d l):Valid (passD d l).1∧(passD d l).1.nodes=d.nodes∧(passD d l).1.low=d.low∧(passD d l).1.certs.length+(passD d l).2.length≤d.certs.length+l.length∧(passD d l).2.Sublist l∧∀ c∈d.certs,c∈(passD d l).1.certs:=by
 obtain ⟨h1,h2,h3,h4,h5⟩:=pass_fine h l.length (Nat.le_refl _)
 have h6:=pass_sub d l l.length
 have h7:=pass_mem d l l.length
 rw [List.take_length] at h1 h2 h3 h4 h6 h7
 exact ⟨h1,h2,h3,h4,h6,h7⟩
structure AgK (d:Dag) (l:List Cert) (t:Dag×List Cert):Prop where
 valid:Valid t.1
 nodes:t.1.nodes=d.nodes
 low:t.1.low=d.low
 len:t.1.certs.length+t.2.length≤d.certs.length+l.length
 sub:t.2.Sublist l
 mem:∀ c∈d.certs,c∈t.1.certs
theorem again_keeps:∀ (n:Nat) (d:Dag) (l:List Cert),Fine d l→l.length<n→AgK d l (againF n d l)
 | 0,d,l,h,hn=>by omega
 | n+1,d,l,h,hn=>by
   obtain ⟨h1,h2,h3,h4,h5,h6⟩:=pass_all h
   have hr:=h.room
   unfold againF
   split
   ·rename_i hlt
    have hf:Fine (passD d l).1 (passD d l).2:=⟨h1,by omega,fun c hc=>by rw [h2];exact h.late c (h5.subset hc)⟩
    have ih:=again_keeps n _ _ hf (by omega)
    exact ⟨ih.valid,ih.nodes.trans h2,ih.low.trans h3,Nat.le_trans ih.len h4,ih.sub.trans h5,fun c hc=>ih.mem c (h6 c hc)⟩
   ·rename_i hge
    exact ⟨h1,h2,h3,by show (passD d l).1.certs.length+l.length≤_;omega,List.Sublist.refl _,h6⟩
theorem againD_keeps {d:Dag} {l:List Cert} (h:Fine d l):AgK d l (againD d l):=again_keeps _ d l h (Nat.lt_succ_self _)
def Prim.gh (p:Prim):Prop:=p.mine.digest=0∧p.mine.sigs=[]
structure Goes (p x:Prim):Prop where
 may:May x
 round:p.round≤x.round
 said:p.said≤x.said
 id:x.id=p.id
 nodes:x.nodes=p.nodes
 votes:∀ v∈p.votes,v∈x.votes
 certs:∀ c∈p.dag.certs,c∈x.dag.certs
 gh:p.gh→x.gh
 room:x.dag.certs.length+x.late.length≤p.dag.certs.length+p.late.length+1
 vlen:x.votes.length≤p.votes.length+1
theorem goes_refl {p:Prim} (h:May p):Goes p p:=⟨h,Int.le_refl _,Int.le_refl _,rfl,rfl,fun _ h=>h,fun _ h=>h,id,by omega,by omega⟩
theorem lateP_ok {n:Int} {l:List Cert} (h:okLate n l) {c:Cert} (hc:okCert n c):okLate n (lateP l c):=by
 refine ⟨?_,lateP_rising h.ris c,fun x hx => ?_⟩
 ·have hl:=h.len
  unfold lateP
  split
  ·rename_i hh
   simp
   omega
  ·exact hl
 ·rcases mem_lateP hx with rfl|hx
  ·exact hc
  ·exact h.certs x hx
theorem goes_in {p:Prim} (h:May p) (hr:p.dag.certs.length+p.late.length<60000) {c:Cert} (hc:okCert p.nodes c):Goes p (inP p c):=by
 unfold inP
 split
 ·rename_i h0
  have hf:Fine (putD p.dag c) p.late:=⟨putD_valid h.dag (by rw [h.same];exact hc) (by omega),by have:=putD_len p.dag c;omega,fun x hx=>by rw [putD_nodes,h.same];exact ⟨h.late.certs x hx,certTiny_of h.isn (h.late.certs x hx)⟩⟩
  have ha:=againD_keeps hf
  have hpl:=putD_len p.dag c
  refine ⟨⟨h.isn,h.id,h.round,h.age,h.said,⟨h.mine.none,h.mine.dig,h.mine.head,h.mine.author,h.mine.round,h.mine.acks,h.mine.less⟩,h.votes,ha.valid,?_,?_⟩,Int.le_refl _,Int.le_refl _,rfl,rfl,fun _ h=>h,fun x hx=>ha.mem x (mem_putD hx),id,?_,Nat.le_succ _⟩
  ·show (againD (putD p.dag c) p.late).1.nodes=p.nodes
   rw [ha.nodes,putD_nodes,h.same]
  ·exact ⟨Nat.le_trans ha.sub.length_le h.late.len,List.Pairwise.sublist ha.sub h.late.ris,fun x hx=>h.late.certs x (ha.sub.subset hx)⟩
  ·show (againD (putD p.dag c) p.late).1.certs.length+(againD (putD p.dag c) p.late).2.length≤_
   have:=ha.len
   omega
 ·split
  ·refine ⟨⟨h.isn,h.id,h.round,h.age,h.said,⟨h.mine.none,h.mine.dig,h.mine.head,h.mine.author,h.mine.round,h.mine.acks,h.mine.less⟩,h.votes,h.dag,h.same,lateP_ok h.late hc⟩,Int.le_refl _,Int.le_refl _,rfl,rfl,fun _ h=>h,fun _ h=>h,id,?_,Nat.le_succ _⟩
   show p.dag.certs.length+(lateP p.late c).length≤_
   have:=lateP_len p.late c
   omega
  ·exact goes_refl h
theorem mem_putV {l:List Vote} {v x:Vote} (h:x∈l):x∈putV l v:=by
 unfold putV
 split
 ·unfold insV
  rw [← List.take_append_drop (posV l v.round v.author) l] at h
  rcases List.mem_append.1 h with h|h
  ·exact List.mem_append.2 (.inl h)
  ·exact List.mem_append.2 (.inr (List.mem_cons_of_mem _ h))
 ·exact h
theorem putV_mem {l:List Vote} {v x:Vote} (h:x∈putV l v):x=v∨x∈l:=by
 unfold putV at h
 split at h
 ·unfold insV at h
  rcases List.mem_append.1 h with h|h
  ·exact .inr (List.mem_of_mem_take h)
  ·rcases List.mem_cons.1 h with h|h
   ·exact .inl h
   ·exact .inr (List.mem_of_mem_drop h)
 ·exact .inr h
theorem putV_len (l:List Vote) (v:Vote):(putV l v).length≤l.length+1:=by
 unfold putV
 split
 ·unfold insV;simp;omega
 ·omega
theorem giveE_0 {l:List Vote} {v:Vote} (h:giveE l v=0):atV l v.round v.author=none∧l.length≠65536:=by
 unfold giveE at h
 cases hat:atV l v.round v.author with
 | some y =>
   rw [hat] at h
   simp only at h
   split at h
   ·exact absurd h (by decide)
   ·exact absurd h (by decide)
 | none =>
   rw [hat] at h
   simp only at h
   split at h
   ·exact absurd h (by decide)
   ·rename_i hne
    exact ⟨rfl,hne⟩
theorem atV_none {l:List Vote} {r a:Int} (h:atV l r a=none):∀ v∈l,¬(v.round=r∧v.author=a):=by
 unfold atV at h
 rw [List.find?_eq_none] at h
 intro v hv
 have:=h v hv
 simpa using this
theorem putV_ok {l:List Vote} (h:okVotes l) {v:Vote} (hv:okVote v):okVotes (putV l v):=by
 refine ⟨?_,fun x hx => ?_,?_⟩
 ·unfold putV
  split
  ·rename_i h0
   have:=(giveE_0 h0).2
   have:=h.len
   unfold insV
   simp
   omega
  ·exact h.len
 ·rcases putV_mem hx with rfl|hx
  ·exact hv
  ·exact h.votes x hx
 ·unfold putV
  split
  ·rename_i h0
   have hno:=atV_none (giveE_0 h0).1
   have hs:=h.sorted
   unfold insV sortedV
   have hsp:=hs
   rw [sortedV,← List.take_append_drop (posV l v.round v.author) l,List.pairwise_append] at hsp
   have h1:∀ y∈l.take (posV l v.round v.author),y.before v.round v.author=true:=by
    intro y hy
    obtain ⟨j,hj⟩:=List.getElem?_of_mem hy
    rw [List.getElem?_take] at hj
    split at hj
    ·rename_i hlt
     exact (posV_iff hs hj).2 hlt
    ·cases hj
   rw [List.pairwise_append]
   refine ⟨hsp.1,List.pairwise_cons.2 ⟨fun y hy => ?_,hsp.2.1⟩,fun a ha y hy => ?_⟩
   ·obtain ⟨j,hj⟩:=List.getElem?_of_mem hy
    rw [List.getElem?_drop] at hj
    have h2:=posV_iff (r:=v.round) (a:=v.author) hs hj
    have h3:=hno y (List.mem_of_getElem? hj)
    have h4:¬y.before v.round v.author=true:=fun h=>by have:=h2.1 h;omega
    rw [beforeV_iff] at h4 ⊢
    omega
   ·rcases List.mem_cons.1 hy with rfl|hy
    ·exact h1 a ha
    ·exact hsp.2.2 a ha y hy
  ·exact h.sorted
theorem certd_goes {p q:Prim} (h:May p) (hr:p.dag.certs.length+p.late.length<60000) (hq:q={ p with mine:=q.mine,dig:=q.dig,acks:=q.acks,votes:=q.votes,said:=q.said }) (hv:okVotes q.votes) (hvs:∀ v∈p.votes,v∈q.votes) (hvl:q.votes.length≤p.votes.length+1) (hsd:p.said≤q.said∧q.said≤p.round)
  (hsg:p.gh→q.gh) (hno:doneP q=false→okMine q) (hyes:doneP q=true→okCert p.nodes (certP q)):Goes p (certdP q):=by
 have e1:q.id=p.id:=by rw [hq]
 have e2:q.nodes=p.nodes:=by rw [hq]
 have e3:q.round=p.round:=by rw [hq]
 have e4:q.age=p.age:=by rw [hq]
 have e5:q.dag=p.dag:=by rw [hq]
 have e6:q.late=p.late:=by rw [hq]
 have hb:=h.said
 unfold certdP
 cases hd:doneP q with
 | false =>
   rw [if_neg (by decide)]
   exact ⟨⟨by rw [e2];exact h.isn,by rw [e1,e2];exact h.id,by rw [e3];exact h.round,by rw [e4];exact h.age,by rw [e3];omega,hno hd,hv,by rw [e5];exact h.dag,by rw [e5,e2];exact h.same,by rw [e2,e6];exact h.late⟩,by rw [e3];exact Int.le_refl _,hsd.1,e1,e2,hvs,fun c hc=>by rw [e5];exact hc,hsg,by rw [e5,e6];omega,hvl⟩
 | true =>
   rw [if_pos rfl]
   have hc:May (clearP q):=⟨by show isN q.nodes=true;rw [e2];exact h.isn,by show 1≤q.id∧q.id≤q.nodes;rw [e1,e2];exact h.id,by show 1≤q.round∧q.round≤_;rw [e3];exact h.round,by show 0≤q.age∧q.age≤_;rw [e4];exact h.age,by show 0≤q.said∧q.said≤q.round;rw [e3];omega,⟨fun _=>⟨rfl,rfl,rfl,rfl,rfl⟩,fun h=>absurd rfl h,fun h=>absurd rfl h,fun h=>absurd rfl h,fun h=>absurd rfl h,fun h=>absurd rfl h,fun h=>absurd rfl h⟩,hv,by show Valid q.dag;rw [e5];exact h.dag,by show q.dag.nodes=q.nodes;rw [e5,e2];exact h.same,by show okLate q.nodes q.late;rw [e2,e6];exact h.late⟩
   have hg:=goes_in hc (by show q.dag.certs.length+q.late.length<_;rw [e5,e6];exact hr) (c:=certP q) (by show okCert q.nodes _;rw [e2];exact hyes hd)
   have g1:q.round≤(inP (clearP q) (certP q)).round:=hg.round
   have g2:q.said≤(inP (clearP q) (certP q)).said:=hg.said
   have g3:(inP (clearP q) (certP q)).id=q.id:=hg.id
   have g4:(inP (clearP q) (certP q)).nodes=q.nodes:=hg.nodes
   have g5:∀ v∈q.votes,v∈(inP (clearP q) (certP q)).votes:=hg.votes
   have g6:∀ c∈q.dag.certs,c∈(inP (clearP q) (certP q)).dag.certs:=hg.certs
   have g7:(inP (clearP q) (certP q)).gh:=hg.gh ⟨rfl,rfl⟩
   have g8:(inP (clearP q) (certP q)).dag.certs.length+(inP (clearP q) (certP q)).late.length≤q.dag.certs.length+q.late.length+1:=hg.room
   have g9:(inP (clearP q) (certP q)).votes=q.votes:=by unfold inP;split;rfl;split;rfl;rfl
   exact ⟨hg.may,by omega,by omega,by rw [g3,e1],by rw [g4,e2],fun v hv=>g5 v (hvs v hv),fun c hc=>g6 c (by rw [e5];exact hc),fun _=>g7,by rw [e5,e6] at g8;exact g8,by rw [g9];exact hvl⟩
theorem goes_say {p:Prim} (h:May p) (hr:p.dag.certs.length+p.late.length<60000) {c:Cert} {d:Int} (hp:propC p c d) (hs:sayC p c):Goes p (sayP p c d):=by
 have hnn:=of_decide_eq_true h.isn
 have hid:=h.id
 have hrd:=h.round
 have hsaid:p.said<p.round:=by
  have:=hs.ready
  unfold readyB at this
  simp only [Bool.and_eq_true,decide_eq_true_iff] at this
  exact this.1
 have hv:okVote ⟨c.round,p.id,d⟩:=⟨hp.head.round,⟨hid.1,by show p.id≤16;omega⟩,hp.dig⟩
 refine certd_goes (q:=propP p c d) h hr rfl (putV_ok h.votes hv) (fun _ hx=>mem_putV hx) (putV_len ..) ⟨by show p.said≤p.round;omega,by show p.round≤p.round;omega⟩ (fun _=>⟨rfl,rfl⟩) (fun hd => ?_) (fun hd => ?_)
 ·simp only [doneP,Bool.not_eq_false',Bool.or_eq_true,decide_eq_true_iff] at hd
  have hd0:(propP p c d).dig≠0:=by show d≠0;have:=hp.dig;omega
  refine ⟨fun e=>absurd e hd0,fun _=>hp.dig,fun _ => ?_,fun _=>hp.author,fun _=>hs.round,fun _=>⟨List.pairwise_singleton ..,fun x hx=>by have:=List.mem_singleton.1 hx;subst this;exact hid⟩,fun _ => ?_⟩
  ·exact ⟨hp.head.isn,hp.head.author,hp.head.round,hp.head.bats,hp.head.pars,hp.head.one,hp.head.many⟩
  ·rcases hd with hd|hd
   ·exact absurd hd hd0
   ·exact hd
 ·have:=(prop_certd h hr hp.head hp.dig hd).cert
  rw [show (propP p c d).dag.nodes=p.nodes from h.same] at this
  exact this
theorem i64_0:i64 0:=⟨by decide,by decide⟩
theorem may_ok {p:Prim} (h:May p) (g:p.gh):p.ok:=by
 have hnn:=of_decide_eq_true h.isn
 have ha:=h.acks.2
 have hv:=h.votes.len
 have hl:=h.late.len
 refine ⟨?_,by rw [g.2];exact Nat.zero_le _,few_le 65536 ha,few_le 65536 hv,h.dag.dok,few_le 256 hl,fun c hc=>certOk_of h.isn (h.late.certs c hc)⟩
 by_cases h0:p.dig=0
 ·obtain ⟨e1,e2,e3,e4,_⟩:=h.mine.none h0
  refine ⟨by rw [e1];exact i64_0,by rw [e2];exact i64_0,⟨by rw [e3];exact few_nil,by rw [e3];simp⟩,⟨by rw [e4];exact few_nil,by rw [e4];simp⟩,by rw [g.1];exact i64_0,⟨by rw [g.2];exact few_nil,by rw [g.2];simp⟩⟩
 ·have hh:=h.mine.head h0
  have h1:=hh.author
  have h2:=hh.round
  have h3:=hh.bats
  have h4:=hh.pars
  exact ⟨i64_of (by omega),i64_of (by omega),⟨few_le 8 (by omega),fun x hx=>i64_of (by have:=h3.2.2 x hx;omega)⟩,⟨few_le 16 (by omega),fun x hx=>i64_of (by have:=h4.2.2 x hx;omega)⟩,by rw [g.1];exact i64_0,⟨by rw [g.2];exact few_nil,by rw [g.2];simp⟩⟩
structure Script.okk (s:Script):Prop where
 oks:s.oks
 ints:∀ a∈s.acts,i64 a.d∧i64 a.doo
 gh:s.p.gh
 hg:∀ a∈s.acts,a.m.head.sigs=[]
theorem eqVote_ok:eqOkB Tryz.prog 106 [true,true,true]=true:=by kernel_rfl
end Go.Proofs.YtolkmjfkkkiboaaGreat
namespace Go.Proofs.YtolkmjfkkkiboaaGreat
open Go.Ab Go.RowKit
theorem askR_head (k:Nat) {ds:List DV} (h:DTy tt (k+3) 24 ds):∃ c:Cert,ds=[.int .i64 c.author,.int .i64 c.round,.sl 1 (nums c.bats),.sl 1 (nums c.pars)]∧c.ok∧c.digest=0∧c.sigs=[]:=by
 obtain ⟨c,h1,h2⟩:=askP_head k h
 exact ⟨⟨c.author,c.round,c.bats,c.pars,0,[]⟩,h1,⟨h2.author,h2.round,h2.bats,h2.pars,⟨by show (-9223372036854775808:Int)≤0;decide,by show (0:Int)<9223372036854775808;decide⟩,⟨Nat.zero_le _,fun n h=>(by cases h)⟩⟩,rfl,rfl⟩
theorem askR_txs {a:List DV} (h:DTy tt 3 43 a):∃ l:List Tx,a=[.sl 4 (txsD l)]∧few l∧∀ t∈l,t.ok:=by
 replace h:∃ xs,a=[.sl 4 xs]∧xs.length * 48≤140737488355328∧∀ x∈xs,DTy tt 2 180 x:=h
 obtain ⟨x3,rfl,w3,e3⟩:=h
 obtain ⟨l,rfl,hl⟩:=map_of (f:=Tx.cs) (ok:=Tx.ok) (xs:=x3) fun x hx=>by
  have h:=e3 x hx
  replace h:DTyF (DTy tt 1) [3,3,9,9] x:=h
  obtain ⟨a1,b1,rfl,h1,a2,b2,rfl,h2,a3,b3,rfl,h3,a4,b4,rfl,h4,rfl⟩:=h
  replace h1:∃ x,a1=[.int .i64 x]∧(Lit.int .i64 x).wf=true:=h1
  replace h2:∃ x,a2=[.int .i64 x]∧(Lit.int .i64 x).wf=true:=h2
  replace h3:∃ s,a3=[.str s]∧s.size≤140737488355328:=h3
  replace h4:∃ s,a4=[.str s]∧s.size≤140737488355328:=h4
  obtain ⟨x1,rfl,w1⟩:=h1
  obtain ⟨x2,rfl,w2⟩:=h2
  obtain ⟨x3,rfl,w3⟩:=h3
  obtain ⟨x4,rfl,w4⟩:=h4
  exact ⟨⟨x1,x2,x3,x4⟩,rfl,⟨w3,w4⟩⟩
 simp only [List.length_map] at w3
 exact ⟨l,rfl,by unfold few;omega,hl⟩
theorem askR_msg {ds:List DV} (h:DTy tt 5 49 ds):∃ m:Msg,ds=m.cs∧m.ok∧(∀ t∈m.txs,t.ok)∧m.head.sigs=[]:=by
 replace h:DTyF (DTy tt 4) [3,3,3,3,45,24,47,22] ds:=h
 obtain ⟨a1,b1,rfl,h1,a2,b2,rfl,h2,a3,b3,rfl,h3,a4,b4,rfl,h4,a5,b5,rfl,h5,a6,b6,rfl,h6,a7,b7,rfl,h7,a8,b8,rfl,h8,rfl⟩:=h
 replace h1:∃ x,a1=[.int .i64 x]∧(Lit.int .i64 x).wf=true:=h1
 replace h2:∃ x,a2=[.int .i64 x]∧(Lit.int .i64 x).wf=true:=h2
 replace h3:∃ x,a3=[.int .i64 x]∧(Lit.int .i64 x).wf=true:=h3
 replace h4:∃ x,a4=[.int .i64 x]∧(Lit.int .i64 x).wf=true:=h4
 replace h5:DTyF (DTy tt 3) [3,3,43] a5:=h5
 obtain ⟨c1,d1,rfl,k1,c2,d2,rfl,k2,c3,d3,rfl,k3,rfl⟩:=h5
 replace k1:∃ x,c1=[.int .i64 x]∧(Lit.int .i64 x).wf=true:=k1
 replace k2:∃ x,c2=[.int .i64 x]∧(Lit.int .i64 x).wf=true:=k2
 obtain ⟨x1,rfl,w1⟩:=h1
 obtain ⟨x2,rfl,w2⟩:=h2
 obtain ⟨x3,rfl,w3⟩:=h3
 obtain ⟨x4,rfl,w4⟩:=h4
 obtain ⟨y1,rfl,v1⟩:=k1
 obtain ⟨y2,rfl,v2⟩:=k2
 obtain ⟨txs,rfl,htx,htk⟩:=askR_txs k3
 obtain ⟨hd,rfl,hh,hd0,hs0⟩:=askR_head 1 h6
 obtain ⟨c,rfl,hc⟩:=askP_cert 0 h7
 obtain ⟨l8,rfl,f8,e8⟩:=askP_row h8
 exact ⟨⟨x1,x2,x3,x4,y1,y2,txs,hd,c,l8⟩,rfl,⟨htx,hh,hc,f8⟩,htk,hs0⟩
theorem askR_act {ds:List DV} (h:DTy tt 6 51 ds):∃ a:Act,ds=a.cs∧a.ok∧(∀ t∈a.m.txs,t.ok)∧a.m.head.sigs=[]∧few a.l∧i64 a.d∧i64 a.doo:=by
 replace h:DTyF (DTy tt 5) [3,3,24,49,4,22] ds:=h
 obtain ⟨a1,b1,rfl,h1,a2,b2,rfl,h2,a3,b3,rfl,h3,a4,b4,rfl,h4,a5,b5,rfl,h5,a6,b6,rfl,h6,rfl⟩:=h
 replace h1:∃ x,a1=[.int .i64 x]∧(Lit.int .i64 x).wf=true:=h1
 replace h2:∃ x,a2=[.int .i64 x]∧(Lit.int .i64 x).wf=true:=h2
 replace h5:∃ b,a5=[.bool b]:=h5
 obtain ⟨x1,rfl,w1⟩:=h1
 obtain ⟨x2,rfl,w2⟩:=h2
 obtain ⟨hd,rfl,hh,-,-⟩:=askR_head 2 h3
 obtain ⟨m,rfl,hm,htx,hsg⟩:=askR_msg h4
 obtain ⟨b,rfl⟩:=h5
 obtain ⟨l6,rfl,f6,e6⟩:=askP_row h6
 exact ⟨⟨x1,x2,hd,m,b,l6⟩,rfl,⟨hh,hm⟩,htx,hsg,f6,askP_i64 w2,askP_i64 w1⟩
theorem askR_acts {a:List DV} (h:DTy tt 7 31 a):∃ l:List Act,a=[.sl 26 (actsD l)]∧few l∧∀ a∈l,a.ok∧(∀ t∈a.m.txs,t.ok)∧a.m.head.sigs=[]∧few a.l∧i64 a.d∧i64 a.doo:=by
 replace h:∃ xs,a=[.sl 26 xs]∧xs.length * 368≤140737488355328∧∀ x∈xs,DTy tt 6 51 x:=h
 obtain ⟨x3,rfl,w3,e3⟩:=h
 obtain ⟨l,rfl,hl⟩:=map_of (f:=Act.cs) (ok:=fun a:Act=>a.ok∧(∀ t∈a.m.txs,t.ok)∧a.m.head.sigs=[]∧few a.l∧i64 a.d∧i64 a.doo) fun x hx=>askR_act (e3 x hx)
 simp only [List.length_map] at w3
 exact ⟨l,rfl,by unfold few;omega,hl⟩
theorem askR_of {ds:List DV} (h:DTy tt 8 33 ds):∃ s:Script,argS ds=s.av∧s.okk:=by
 replace h:DTyF (DTy tt 7) [30,31] ds:=h
 obtain ⟨p,b0,rfl,hp,q,b1,rfl,hq,rfl⟩:=h
 obtain ⟨acts,rfl,fa,ea⟩:=askR_acts hq
 replace hp:DTyF (DTy tt 6) [3,3,3,3,3,24,3,22,25,28,26] p:=hp
 obtain ⟨a1,b1,rfl,h1,a2,b2,rfl,h2,a3,b3,rfl,h3,a4,b4,rfl,h4,a5,b5,rfl,h5,a6,b6,rfl,h6,a7,b7,rfl,h7,a8,b8,rfl,h8,a9,b9,rfl,h9,c1,d1,rfl,k1,c2,d2,rfl,k2,rfl⟩:=hp
 replace h1:∃ x,a1=[.int .i64 x]∧(Lit.int .i64 x).wf=true:=h1
 replace h2:∃ x,a2=[.int .i64 x]∧(Lit.int .i64 x).wf=true:=h2
 replace h3:∃ x,a3=[.int .i64 x]∧(Lit.int .i64 x).wf=true:=h3
 replace h4:∃ x,a4=[.int .i64 x]∧(Lit.int .i64 x).wf=true:=h4
 replace h5:∃ x,a5=[.int .i64 x]∧(Lit.int .i64 x).wf=true:=h5
 replace h7:∃ x,a7=[.int .i64 x]∧(Lit.int .i64 x).wf=true:=h7
 obtain ⟨x1,rfl,w1⟩:=h1
 obtain ⟨x2,rfl,w2⟩:=h2
 obtain ⟨x3,rfl,w3⟩:=h3
 obtain ⟨x4,rfl,w4⟩:=h4
 obtain ⟨x5,rfl,w5⟩:=h5
 obtain ⟨hd,rfl,hh,hd0,hs0⟩:=askR_head 3 h6
 obtain ⟨x7,rfl,w7⟩:=h7
 obtain ⟨l8,rfl,f8,e8⟩:=askP_row h8
 obtain ⟨l9,rfl,f9⟩:=askP_votes h9
 obtain ⟨d,rfl,hdg⟩:=askP_dag k1
 obtain ⟨lt,rfl,flt,elt⟩:=askP_certs 1 k2
 exact ⟨⟨⟨x1,x2,x3,x4,x5,hd,x7,l8,l9,d,lt⟩,acts⟩,rfl,⟨⟨⟨hh,f8,f9,hdg,⟨flt,elt⟩,⟨fa,fun a h=>(ea a h).1⟩⟩,fun a h=>(ea a h).2.1,fun a h=>(ea a h).2.2.2.1⟩,fun a h=>(ea a h).2.2.2.2,⟨hd0,hs0⟩,fun a h=>(ea a h).2.2.1⟩⟩
end Go.Proofs.YtolkmjfkkkiboaaGreat
