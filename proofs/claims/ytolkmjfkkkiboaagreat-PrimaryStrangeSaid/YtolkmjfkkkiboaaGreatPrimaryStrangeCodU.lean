/- PrimaryStrange: contracts. -/
import Derived.Test.YtolkmjfkkkiboaaGreatPrimaryStrangeCodS
set_option linter.unusedVariables false
set_option linter.unusedSimpArgs false
namespace Go.Proofs.YtolkmjfkkkiboaaGreat
open Go.Ab Go.RowKit Go.MapKept
attribute [local irreducible] ACalls AW ADraw Into fltB fnear
set_option maxRecDepth 100000
theorem okc_fit {n:Int} (hn:isN n=true) {c:Cert} (h:okCert n c):c.fitS:=by
 have hnn:=of_decide_eq_true hn
 have h3:=h.head.bats
 have h4:=h.head.pars
 have h6:=h.sigs
 rw [show n=(n.toNat:Int) by omega] at h6
 have h6:=riseN_len2 h6
 exact ⟨by omega,by omega,by omega⟩
theorem may_fit {p:Prim} (h:May p):p.fitS:=by
 have hnn:=of_decide_eq_true h.isn
 have h1:=h.acks.2
 have h2:=h.votes.len
 have h3:=h.dag.len
 have h4:=h.late.len
 have hm:p.mine.bats.length≤4294967296∧p.mine.pars.length≤4294967296:=by
  by_cases h0:p.dig=0
  ·obtain ⟨_,_,e1,e2,_⟩:=h.mine.none h0
   rw [e1,e2]
   exact ⟨Nat.zero_le _,Nat.zero_le _⟩
  ·have hh:=h.mine.head h0
   have a1:=hh.bats
   have a2:=hh.pars
   exact ⟨by omega,by omega⟩
 exact ⟨hm.1,hm.2,by omega,by omega,⟨by omega,fun c hc=>okc_fit h.isn (by have:=h.dag.certs c hc;rw [h.same] at this;exact this)⟩,by omega,fun c hc=>okc_fit h.isn (h.late.certs c hc)⟩
theorem acalls_sealC {P:Program} {f:FuncId} {avs:List AV} {Lin:List AB} {post post':AV→List AB→Prop} (h:ACalls P f avs Lin post)
  (hp:∀ av L,post av L→∃ a b x d,av = .tup [a,b,x,d]∧deepK x L fun y L'=>finK Lin.length (.tup [a,b,y,d]) L' post'):ACalls P f avs Lin post':=by
 unfold ACalls at h ⊢
 intro c vs hc hL hs hv
 refine (h c vs hc hL hs hv).mono ?_
 rintro e w' ⟨v,av,L',E',rfl,k2,k3,k4⟩
 obtain ⟨a,b,x,d,rfl,hd⟩:=hp _ _ k2
 simp only [VR,VRt] at k4
 obtain ⟨us,rfl,u1,r1,e1,v1,u2,r2,rfl,v2,u3,r3,rfl,v3,u4,r4,rfl,v4,rfl⟩:=k4
 obtain ⟨y,L2,h1,h2,h3,h4⟩:=deepK_ok hc k3 hd v3
 obtain ⟨E3,av3,L3,m1,m2,m3⟩:=finK_ok h1 (by rw [hL]) h2 (v := .tuple us) (by
  simp only [VR,VRt]
  exact ⟨us,rfl,u1,_,e1,VR.mono h3 _ _ v1,u2,_,rfl,VR.mono h3 _ _ v2,u3,_,rfl,h4,u4,_,rfl,VR.mono h3 _ _ v4,rfl⟩)
 exact ⟨_,av3,L3,E3,rfl,m1,m2,m3⟩
def proS (p:Prim) (h:Cert) (d:Int) (av:AV) (L:List AB):Prop :=
 (proE p h d=0∧propC p h d∧sayC p h∧av = .tup [(sayP p h d).av,.arr 0,.d (.sl 18 (msgsD (sayO p h d))),.d (.int .i64 0)]∧L=[.row 3 1 (nums p.mine.bats) false]) ∨
 (proE p h d≠0∧av = .tup [.agg zPrim,.arr 0,.d (.sl 18 []),.d (.int .i64 (proE p h d))]∧L=[.row 3 1 [] false])
theorem proposedO_s (p:Prim) (hok:p.ok) (hr:p.dag.certs.length+p.late.length<60000) (h:Cert) (hf:fewL h) (hht:h.tiny) (d:Int):ACalls Tryz.prog 49 [p.avo,h.havo,.d (.int .i64 d)] [] (proS p h d):=by
 refine acalls_sealC (proposedO_row p hok hr h hf hht d) ?_
 rintro _ _ (⟨k1,k2,k3,k4,rfl,rfl⟩|⟨k1,k2,k3,rfl,rfl⟩|⟨k1,k2,rfl,rfl⟩|⟨k1,rfl,rfl⟩)
 ·refine ⟨_,_,_,_,rfl,?_⟩
  conv=>whnf
  exact .inl ⟨proE_0 k1 k2 k3 k4,k1,k2,rfl,rfl⟩
 ·have e:=proE_g k1 k2 k3
  refine ⟨_,_,_,_,rfl,?_⟩
  rw [← e]
  rw [← e] at k3
  conv=>whnf
  exact .inr ⟨by omega,rfl,rfl⟩
 ·have e:=proE_10 k1 k2
  refine ⟨_,_,_,_,rfl,?_⟩
  rw [← e]
  conv=>whnf
  exact .inr ⟨by omega,rfl,rfl⟩
 ·have e:=proE_1 k1
  refine ⟨_,_,_,_,rfl,?_⟩
  rw [← e]
  conv=>whnf
  exact .inr ⟨by omega,rfl,rfl⟩
theorem hdr_fit {p:Prim} {h:Cert} (hh:okHead p.nodes h) (hn:isN p.nodes=true):(hdr h).fitS:=by
 have hnn:=of_decide_eq_true hn
 have h1:=hh.bats.1
 have h2:=hh.pars.1
 exact ⟨by show h.bats.length≤_;omega,by show h.pars.length≤_;omega,Nat.zero_le _⟩
theorem sayO_nice {p:Prim} (hm:May p) (hr:p.dag.certs.length+p.late.length<60000) {h:Cert} {d:Int} (k1:propC p h d):∀ x∈sayO p h d,x.nice:=by
 intro x hx
 rcases List.mem_append.1 hx with hx|hx
 ·exact tellO_nice (askMsg_nice (hdr_fit k1.head hm.isn)) x hx
 ·split at hx
  ·rename_i hdn
   have hc:=(prop_certd hm hr k1.head k1.dig hdn).tiny
   have hok:=(prop_certd hm hr k1.head k1.dig hdn).cert
   have hnn:=of_decide_eq_true hm.isn
   have h1:=hok.head.bats.1
   have h2:=hok.head.pars.1
   refine tellO_nice (certMsg_nice ⟨by omega,by rw [show (propP p h d).dag.nodes=p.nodes from hm.same] at h2;omega,?_⟩) x hx
   show ([p.id]:List Int).length≤_
   exact Nat.le_of_ble_eq_true rfl
  ·cases hx
theorem sayO_len {p:Prim} (hm:May p) (h:Cert) (d:Int):(sayO p h d).length≤100:=by
 have hnn:=of_decide_eq_true hm.isn
 have h1:=tellO_len (propP p h d) (askMsg (propP p h d)) [] p.nodes.toNat
 have h2:=tellO_len (clearP (propP p h d)) (certMsg (certP (propP p h d))) [] p.nodes.toNat
 unfold sayO
 rw [List.length_append]
 split
 ·omega
 ·simp only [List.length_nil];omega
def outH (q:Prim) (l:List Int) (o:List Msg) (e:Int):AV := .tup [q.ai 0,.isl 0 (.slo 1 (ints l)),.isl 0 (.sl 18 (msgsD o)),.d (.int .i64 e)]
theorem proposedI_ok (p:Prim) (hok:p.ok) (hr:p.dag.certs.length+p.late.length<60000) (hb:p.mine.bats.length≤4294967296) (h:Cert) (hf:fewL h) (hht:h.tiny) (d:Int) :
  ACalls Tryz.prog 49 [p.av,h.hav,.d (.int .i64 d)] [] (fun av L=>((proE p h d=0∧propC p h d∧sayC p h∧av=outH (sayP p h d) p.mine.bats (sayO p h d) 0)∨(proE p h d≠0∧av=outH zP [] [] (proE p h d)))∧∃ lo n b k,L=[.isle lo n (.hole b k true)]):=by
 refine acalls_wk (acalls_isle_row rfl (X:=proS p h d) (post:=fun av=>(proE p h d=0∧propC p h d∧sayC p h∧av=outH (sayP p h d) p.mine.bats (sayO p h d) 0)∨(proE p h d≠0∧av = .tup [.agg zPrim,.isl 0 (.slo 1 (ints [])),.isl 0 (.sl 18 []),.d (.int .i64 (proE p h d))]))
  (.cons (lendO_prim [] p) (.cons (.inr ⟨_,_,rfl,rfl,.cons (lo_int _) (.cons (lo_int _) (.cons (lo_dn (dn_nums _)) (.cons (lo_dn (dn_nums _)) .nil)))⟩) (.cons (.inl (lo_int _)) .nil))) (proposedO_s p hok hr h hf hht d) ?_) ?_
 ·rintro _ _ (⟨k0,k1,k2,rfl,rfl⟩|⟨k0,rfl,rfl⟩)
  ·refine ⟨_,_,p.mine.bats,rfl,hb,.inr ⟨_,rfl,?_⟩,.inl ⟨k0,k1,k2,rfl⟩⟩
   exact .cons (.isl (isl2_prim _ _)) (.cons .row (.cons (.isl (.inl (.sl (ne_msgs (sayO_nice k1.may hr k1))))) (.cons (.isl (.inl (isl_int _))) .nil)))
  ·refine ⟨_,_,[],rfl,Nat.zero_le _,.inr ⟨_,rfl,?_⟩,.inr ⟨k0,rfl⟩⟩
   exact .cons (.isl (isl2_z _)) (.cons .row (.cons (.isl (.inl (.sl trivial))) (.cons (.isl (.inl (isl_int _))) .nil)))
 ·rintro _ _ ⟨⟨k0,k1,k2,rfl⟩|⟨k0,rfl⟩,lo,n,b,k,rfl⟩
  ·exact ⟨_,.inl (.inl (wk_r _)),.inl ⟨k0,k1,k2,rfl⟩,lo,n,b,k,rfl⟩
  ·refine ⟨_,.inr ⟨_,_,rfl,rfl,.cons (.inr ⟨_,_,rfl,rfl,?_⟩) (.cons (.inl (wk_r _)) (.cons (.inl (wk_r _)) (.cons (.inl (wk_r _)) .nil)))⟩,.inr ⟨k0,rfl⟩,lo,n,b,k,rfl⟩
   have hw:∀ {m:Nat},0<m→Wk1 [AB.isle lo n (.hole b k true)] (.d .nils) (.isl 0 (.sl m [])):=fun {m} hm => .inr ⟨0,lo,n,m,rfl,⟨_,rfl,rfl⟩,hm,rfl⟩
   exact .cons (wk_r _) (.cons (wk_r _) (.cons (wk_r _) (.cons (wk_r _) (.cons (wk_r _) (.cons (wk_r _) (.cons (wk_r _) (.cons (hw (by decide)) (.cons (hw (by decide)) (.cons (wk_r _) (.cons (hw (by decide)) (.cons (hw (by decide)) (.cons (wk_r _) (.cons (wk_r _) (.cons (hw (by decide)) (.cons (hw (by decide)) .nil)))))))))))))))
end Go.Proofs.YtolkmjfkkkiboaaGreat
