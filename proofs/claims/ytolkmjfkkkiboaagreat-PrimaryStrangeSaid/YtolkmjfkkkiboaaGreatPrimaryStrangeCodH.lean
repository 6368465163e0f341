/- PrimaryStrange: contracts. -/
import Derived.Test.YtolkmjfkkkiboaaGreatPrimaryStrangeCodG
set_option linter.unusedVariables false
set_option linter.unusedSimpArgs false
namespace Go.Proofs.YtolkmjfkkkiboaaGreat
open Go.Ab Go.RowKit Go.MapKept
attribute [local irreducible] ACalls AW ADraw Into fltB fnear
set_option maxRecDepth 100000
theorem mem_putD {d:Dag} {c y:Cert} (h:y∈d.certs):y∈(putD d c).certs:=by
 unfold putD
 split
 ·exact mem_insC.2 (.inr h)
 ·exact h
theorem i64_of {n:Int} (h:0≤n∧n≤1099511627776):i64 n:=⟨by omega,by omega⟩
theorem riseN_len {l:List Int} {m:Int} (h:riseB l 1 m) (hm:0≤m∧m≤65536):l.length≤65536:=rise_len2 ⟨h.1,fun x hx=>by have:=h.2 x hx;omega⟩
theorem certOk_of {n:Int} (hn:isN n=true) {c:Cert} (h:okCert n c):c.ok:=by
 have hnn:=of_decide_eq_true hn
 have h1:=h.head.author
 have h2:=h.head.round
 have h3:=h.head.bats
 have h4:=h.head.pars
 have h5:=h.digest
 have h6:=riseN_len h.sigs (by omega)
 refine ⟨i64_of (by omega),i64_of (by omega),⟨by unfold few;omega,fun x hx=>i64_of (by have:=h3.2.2 x hx;omega)⟩,⟨by unfold few;omega,fun x hx=>i64_of (by have:=h4.2.2 x hx;omega)⟩,i64_of (by omega),⟨by unfold few;omega,fun x hx=>i64_of (by have:=h.sigs.2 x hx;omega)⟩⟩
theorem certTiny_of {n:Int} (hn:isN n=true) {c:Cert} (h:okCert n c):c.tiny:=by
 have hnn:=of_decide_eq_true hn
 have h3:=h.head.bats
 have h4:=h.head.pars
 have h6:=riseN_len h.sigs (by omega)
 exact ⟨by unfold tiny;omega,by unfold tiny;omega,by unfold tiny;omega⟩
theorem certFew_of {n:Int} (hn:isN n=true) {c:Cert} (h:okCert n c):fewL c:=by
 have hnn:=of_decide_eq_true hn
 have h3:=h.head.bats
 have h4:=h.head.pars
 have h6:=riseN_len h.sigs (by omega)
 exact ⟨by unfold few;omega,by unfold few;omega,by unfold few;omega⟩
theorem Valid.dok {d:Dag} (h:Valid d):d.ok:=by
 have hn:=of_decide_eq_true h.nodes
 have hl:=h.len
 exact ⟨i64_of (by omega),i64_of h.low,by unfold few;omega,fun c hc=>certOk_of h.nodes (h.certs c hc)⟩
theorem dagMay_true (d:Dag) (h:Valid d):ACalls Tryz.prog 75 [d.av] [] (fun av L=>av = .d (.bool true)∧L=[]):=by
 have:=dagMay_full d h.dok
 rw [isV_yes h] at this
 exact this
set_option maxHeartbeats 4000000 in
theorem primMay_true (p:Prim) (h:BareMay p):ACalls Tryz.prog 41 [p.av] [] (fun av L=>av = .d (.bool true)∧L=[]):=by
 have hi:=is_ok p.nodes
 rw [h.isn] at hi
 obtain ⟨h1,h2⟩:=h.id
 obtain ⟨h3,h4⟩:=h.round
 obtain ⟨h5,h6⟩:=h.age
 obtain ⟨h7,h8⟩:=h.said
 have hm:=mine0_ok p h.bare
 have hv:=h.votes
 have hd:=dagMay_true p.dag h.dag
 have hlt:=lateMay_true p.nodes p.late h.late.1 h.late.2.1 h.late.2.2
 have hsm:=h.same
 have hvm:ACalls Tryz.prog 74 [.d (.sl 3 (votesD p.votes))] [] (fun av L=>av = .d (.bool true)∧L=[]):=by rw [hv];exact voteMay_nil
 (refine acalls_go ttOk zOk foOk Tryz.func41 rfl Tryz.ntmps41 rfl false rfl ?_);(conv=>whnf)
 refine rdw ?_;repeat' ((with_reducible apply tw)<;>intro _)
 refine hi.mono ?_
 rintro _ _ ⟨rfl,rfl⟩
 conv=>whnf
 refine rdw ?_;repeat' ((with_reducible apply tw)<;>intro _)
 all_goals first|(exfalso;omega)|skip
 refine hm.mono ?_
 rintro _ _ ⟨rfl,rfl⟩
 conv=>whnf
 refine rdw ?_;repeat' ((with_reducible apply tw)<;>intro _)
 refine hvm.mono ?_
 rintro _ _ ⟨rfl,rfl⟩
 conv=>whnf
 refine rdw ?_;repeat' ((with_reducible apply tw)<;>intro _)
 refine hd.mono ?_
 rintro _ _ ⟨rfl,rfl⟩
 conv=>whnf
 refine rdw ?_;repeat' ((with_reducible apply tw)<;>intro _)
 ·refine hlt.mono ?_
  rintro _ _ ⟨rfl,rfl⟩
  conv=>whnf
  exact ⟨rfl,rfl⟩
 ·rename_i e
  exact absurd hsm e
theorem txsD_length (l:List Tx):(txsD l).length=l.length:=List.length_map ..
structure Msg.ok (m:Msg):Prop where
 txs:few m.txs
 head:m.head.ok
 cert:m.cert.ok
 digs:few m.digs
structure Act where
 doo:Int
 d:Int
 h:Cert
 m:Msg
 fit:Bool
 l:List Int
def Act.cs (a:Act):List DV:=[.int .i64 a.doo,.int .i64 a.d,.int .i64 a.h.author,.int .i64 a.h.round,.sl 1 (nums a.h.bats),.sl 1 (nums a.h.pars),
 .int .i64 a.m.kind,.int .i64 a.m.src,.int .i64 a.m.dst,.int .i64 a.m.digest,.int .i64 a.m.ba,.int .i64 a.m.bn,.sl 4 (txsD a.m.txs),.int .i64 a.m.head.author,.int .i64 a.m.head.round,.sl 1 (nums a.m.head.bats),.sl 1 (nums a.m.head.pars),.int .i64 a.m.cert.author,.int .i64 a.m.cert.round,.sl 1 (nums a.m.cert.bats),.sl 1 (nums a.m.cert.pars),.int .i64 a.m.cert.digest,.sl 1 (nums a.m.cert.sigs),.sl 1 (nums a.m.digs),
 .bool a.fit,.sl 1 (nums a.l)]
def actsD (l:List Act):List (List DV):=l.map Act.cs
theorem actsD_length (l:List Act):(actsD l).length=l.length:=List.length_map ..
theorem actsD_at {l:List Act} {k:Nat} {c:Act} (h:l[k]? = some c):(actsD l)[k]? = some c.cs:=by
 rw [actsD,List.getElem?_map,h]
 rfl
structure Act.ok (a:Act):Prop where
 h:a.h.ok
 m:a.m.ok
structure Script where
 p:Prim
 acts:List Act
def Script.cs (s:Script):List DV:=[.int .i64 s.p.id,.int .i64 s.p.nodes,.int .i64 s.p.round,.int .i64 s.p.age,.int .i64 s.p.said,.int .i64 s.p.mine.author,.int .i64 s.p.mine.round,.sl 1 (nums s.p.mine.bats),.sl 1 (nums s.p.mine.pars),.int .i64 s.p.dig,.sl 1 (nums s.p.acks),.sl 3 (votesD s.p.votes),.int .i64 s.p.dag.nodes,.int .i64 s.p.dag.low,.sl 6 (certsD s.p.dag.certs),.sl 6 (certsD s.p.late),.sl 26 (actsD s.acts)]
def Script.av (s:Script):AV := .agg (s.cs.map AV.d)
structure Script.ok (s:Script):Prop where
 mine:s.p.mine.ok
 acks:few s.p.acks
 votes:few s.p.votes
 dag:s.p.dag.ok
 late:few s.p.late∧∀ c∈s.p.late,c.ok
 acts:few s.acts∧∀ a∈s.acts,a.ok
end Go.Proofs.YtolkmjfkkkiboaaGreat
namespace Go.Proofs.YtolkmjfkkkiboaaGreat
open Go.Ab Go.RowKit
theorem askP_nums {xs:List (List DV)} (h:∀ x∈xs,∃ n,x=[DV.int .i64 n]∧(Lit.int .i64 n).wf=true):∃ l:List Int,xs=nums l∧∀ n∈l,i64 n :=
 map_of (f:=fun n:Int=>[.int .i64 n]) fun x hx=>by
  obtain ⟨n,h1,h2⟩:=h x hx
  have hb : -9223372036854775808≤n∧n≤9223372036854775807:=by simpa [Lit.wf,IntKind.min,IntKind.max,IntKind.signed,IntKind.bits] using h2
  exact ⟨n,h1,hb.1,by omega⟩
theorem askP_i64 {n:Int} (h2:(Lit.int .i64 n).wf=true):i64 n:=by
 have hb : -9223372036854775808≤n∧n≤9223372036854775807:=by simpa [Lit.wf,IntKind.min,IntKind.max,IntKind.signed,IntKind.bits] using h2
 exact ⟨hb.1,by omega⟩
theorem askP_row {a:List DV} (h:∃ xs,a=[DV.sl 1 xs]∧xs.length * 8≤140737488355328∧∀ x∈xs,∃ n,x=[DV.int .i64 n]∧(Lit.int .i64 n).wf=true):∃ l:List Int,a=[.sl 1 (nums l)]∧few l∧∀ n∈l,i64 n:=by
 obtain ⟨xs,rfl,h1,h2⟩:=h
 obtain ⟨l,rfl,hl⟩:=askP_nums h2
 rw [nums_length] at h1
 exact ⟨l,rfl,by unfold few;omega,hl⟩
theorem askP_head (k:Nat) {ds:List DV} (h:DTy tt (k+3) 24 ds):∃ c:Cert,ds=[.int .i64 c.author,.int .i64 c.round,.sl 1 (nums c.bats),.sl 1 (nums c.pars)]∧c.ok:=by
 replace h:DTyF (DTy tt (k+2)) [3,3,22,22] ds:=h
 obtain ⟨a4,b4,rfl,h4,a5,b5,rfl,h5,a6,b6,rfl,h6,a7,b7,rfl,h7,rfl⟩:=h
 replace h4:∃ x,a4=[.int .i64 x]∧(Lit.int .i64 x).wf=true:=h4
 replace h5:∃ x,a5=[.int .i64 x]∧(Lit.int .i64 x).wf=true:=h5
 obtain ⟨l6,rfl,f6,e6⟩:=askP_row h6
 obtain ⟨l7,rfl,f7,e7⟩:=askP_row h7
 obtain ⟨x4,rfl,w4⟩:=h4
 obtain ⟨x5,rfl,w5⟩:=h5
 exact ⟨⟨x4,x5,l6,l7,0,[]⟩,rfl,askP_i64 w4,askP_i64 w5,⟨f6,e6⟩,⟨f7,e7⟩,⟨by show (-9223372036854775808:Int)≤0;decide,by show (0:Int)<9223372036854775808;decide⟩,⟨Nat.zero_le _,fun n h=>(by cases h)⟩⟩
theorem askP_cert (k:Nat) {ds:List DV} (h:DTy tt (k+4) 47 ds):∃ c:Cert,ds=c.cs∧c.ok:=by
 replace h:DTyF (DTy tt (k+3)) [24,3,22] ds:=h
 obtain ⟨a1,b1,rfl,h1,a2,b2,rfl,h2,a3,b3,rfl,h3,rfl⟩:=h
 obtain ⟨c,rfl,hc⟩:=askP_head k h1
 replace h2:∃ x,a2=[.int .i64 x]∧(Lit.int .i64 x).wf=true:=h2
 obtain ⟨l3,rfl,f3,e3⟩:=askP_row h3
 obtain ⟨x2,rfl,w2⟩:=h2
 exact ⟨⟨c.author,c.round,c.bats,c.pars,x2,l3⟩,rfl,hc.author,hc.round,hc.bats,hc.pars,askP_i64 w2,⟨f3,e3⟩⟩
theorem askP_certs (k:Nat) {a:List DV} (h:DTy tt (k+5) 26 a):∃ l:List Cert,a=[.sl 6 (certsD l)]∧few l∧∀ c∈l,c.ok:=by
 replace h:∃ xs,a=[.sl 6 xs]∧xs.length * 96≤140737488355328∧∀ x∈xs,DTy tt (k+4) 47 x:=h
 obtain ⟨x3,rfl,w3,e3⟩:=h
 obtain ⟨l,rfl,hl⟩:=map_of (f:=Cert.cs) fun x hx=>askP_cert k (e3 x hx)
 simp only [List.length_map] at w3
 exact ⟨l,rfl,by unfold few;omega,hl⟩
theorem askP_dag {ds:List DV} (h:DTy tt 6 28 ds):∃ d:Dag,ds=[.int .i64 d.nodes,.int .i64 d.low,.sl 6 (certsD d.certs)]∧d.ok:=by
 replace h:DTyF (DTy tt 5) [3,3,26] ds:=h
 obtain ⟨a1,b1,rfl,h1,a2,b2,rfl,h2,a3,b3,rfl,h3,rfl⟩:=h
 replace h1:∃ x,a1=[.int .i64 x]∧(Lit.int .i64 x).wf=true:=h1
 replace h2:∃ x,a2=[.int .i64 x]∧(Lit.int .i64 x).wf=true:=h2
 obtain ⟨x1,rfl,w1⟩:=h1
 obtain ⟨x2,rfl,w2⟩:=h2
 obtain ⟨l,rfl,hf,hl⟩:=askP_certs 0 h3
 exact ⟨⟨x1,x2,l⟩,rfl,askP_i64 w1,askP_i64 w2,hf,hl⟩
theorem askP_votes {a:List DV} (h:DTy tt 6 25 a):∃ l:List Vote,a=[.sl 3 (votesD l)]∧few l:=by
 replace h:∃ xs,a=[.sl 3 xs]∧xs.length * 24≤140737488355328∧∀ x∈xs,DTy tt 5 106 x:=h
 obtain ⟨x3,rfl,w3,e3⟩:=h
 obtain ⟨l,rfl,-⟩:=map_of (f:=Vote.cs) (ok:=fun _=>True) (xs:=x3) fun x hx=>by
  have h:=e3 x hx
  replace h:DTyF (DTy tt 4) [3,3,3] x:=h
  obtain ⟨a1,b1,rfl,h1,a2,b2,rfl,h2,a3,b3,rfl,h3,rfl⟩:=h
  replace h1:∃ x,a1=[.int .i64 x]∧(Lit.int .i64 x).wf=true:=h1
  replace h2:∃ x,a2=[.int .i64 x]∧(Lit.int .i64 x).wf=true:=h2
  replace h3:∃ x,a3=[.int .i64 x]∧(Lit.int .i64 x).wf=true:=h3
  obtain ⟨x1,rfl,w1⟩:=h1
  obtain ⟨x2,rfl,w2⟩:=h2
  obtain ⟨x3,rfl,w3⟩:=h3
  exact ⟨⟨x1,x2,x3⟩,rfl,trivial⟩
 simp only [List.length_map] at w3
 exact ⟨l,rfl,by unfold few;omega⟩
end Go.Proofs.YtolkmjfkkkiboaaGreat
namespace Go.Proofs.YtolkmjfkkkiboaaGreat
open Go.Ab Go.RowKit Go.MapKept
attribute [local irreducible] ACalls AW ADraw Into fltB fnear
set_option maxRecDepth 100000
def newP (i n:Int):Prim:=⟨i,n,1,0,0,cz0,0,[],[],⟨n,0,[]⟩,[]⟩
theorem new_bare {i n:Int} (hn:isN n=true) (hi:1≤i∧i≤n):BareMay (newP i n) :=
 ⟨⟨⟨rfl,rfl,rfl,rfl⟩,rfl,rfl⟩,hn,hi,⟨by show (1:Int)≤1;decide,by show (1:Int)≤1099511627776;decide⟩,⟨by show (0:Int)≤0;decide,by show (0:Int)≤1099511627776;decide⟩,⟨by show (0:Int)≤0;decide,by show (0:Int)≤1;decide⟩,rfl,
  ⟨hn,⟨by show (0:Int)≤0;decide,by show (0:Int)≤1099511627776;decide⟩,Nat.zero_le _,fun c h=>(by cases h),fun c h=>(by cases h),List.Pairwise.nil,List.nodup_nil,fun c h=>(by cases h)⟩,rfl,⟨Nat.zero_le _,List.Pairwise.nil,fun c h=>(by cases h)⟩⟩
def newN (i n:Int):AV := .agg [.d (.int .i64 i),.d (.int .i64 n),.d (.int .i64 1),.d (.int .i64 0),.d (.int .i64 0),.d (.int .i64 0),.d (.int .i64 0),.d .nils,.d .nils,.d (.int .i64 0),.d .nils,.d .nils,.d (.int .i64 n),.d (.int .i64 0),.d .nils,.d .nils]
theorem newNW (i n:Int):NW (newN i n) (newP i n).av :=
 .agg (.cons (.refl _) (.cons (.refl _) (.cons (.refl _) (.cons (.refl _) (.cons (.refl _) (.cons (.refl _) (.cons (.refl _) (.cons (.nils 1 (by decide)) (.cons (.nils 1 (by decide)) (.cons (.refl _) (.cons (.nils 1 (by decide)) (.cons (.nils 3 (by decide)) (.cons (.refl _) (.cons (.refl _) (.cons (.nils 6 (by decide)) (.cons (.nils 6 (by decide)) .nil))))))))))))))))
theorem newN_ok (i n:Int) (hn:isN n=true) (hi:1≤i∧i≤n):ACalls Tryz.prog 63 [.d (.int .i64 i),.d (.int .i64 n)] [] (fun av L=>av = .tup [newN i n,.d (.int .i64 0)]∧L=[]):=by
 have hm:=primMay_true (newP i n) (new_bare hn hi)
 have hm2:=acalls_nw hm (.cons (newNW i n) .nil)
 (refine acalls_go ttOk zOk foOk Tryz.func63 rfl Tryz.ntmps63 rfl false rfl ?_);(conv=>whnf)
 refine rdz ?_;repeat' ((with_reducible apply tw)<;>intro _)
 refine ACalls.mono (post:=fun av L=>av = .d (.bool true)∧L=[]) hm2 ?_
 rintro _ _ ⟨rfl,rfl⟩
 conv=>whnf
 refine rdz ?_;repeat' ((with_reducible apply tw)<;>intro _)
 exact ⟨rfl,rfl⟩
theorem new_ok (i n:Int) (hn:isN n=true) (hi:1≤i∧i≤n):ACalls Tryz.prog 63 [.d (.int .i64 i),.d (.int .i64 n)] [] (fun av L=>av = .tup [(newP i n).av,.d (.int .i64 0)]∧L=[]):=by
 refine acalls_post3 (newN_ok i n hn hi) ?_
 rintro av L ⟨rfl,rfl⟩
 refine ⟨_,⟨rfl,rfl⟩,fun R v h => ?_⟩
 simp only [VR,VRt] at h ⊢
 obtain ⟨us,rfl,u,us',h1,h2,h3⟩:=h
 exact ⟨us,rfl,u,us',h1,by have:=NW.ok (newNW i n) u (by simpa only [VR] using h2);simpa only [VR] using this,h3⟩
def fullB (p:Prim) (r:Int):Bool:=decide (((ofR p.dag.certs r).length:Int)≥quo p.nodes)
theorem full_ok (p:Prim) (hf:p.dag.fit) (hn:isN p.nodes=true) (r:Int) (hr:isF r):ACalls Tryz.prog 134 [p.av,.d (.int .i64 r)] [] (fun av L=>av = .d (.bool (fullB p r))∧L=[]):=by
 have hnn:=of_decide_eq_true hn
 have hcl:=certsD_length (ofR p.dag.certs r)
 have h1:=dagOf_ok p.dag hf r hr
 have h2:=q_ok p.nodes ⟨by omega,by omega⟩
 (refine acalls_go ttOk zOk foOk Tryz.func134 rfl Tryz.ntmps134 rfl false rfl ?_);(conv=>whnf)
 ((with_reducible refine draw_pl ttOk zOk foOk mixedOk pl134x1 ?_ ?_);(focus kernel_rfl);(conv=>whnf))
 refine rdw ?_;repeat' ((with_reducible apply tw)<;>intro _)
 refine ACalls.mono (post:=fun av L=>av = .d (.sl 6 (certsD (ofR p.dag.certs r)))∧L=[]) h1 ?_
 rintro _ _ ⟨rfl,rfl⟩
 conv=>whnf
 refine rdw ?_;repeat' ((with_reducible apply tw)<;>intro _)
 refine ACalls.mono (post:=fun av L=>av = .d (.int .i64 (2 * ((p.nodes - 1) / 3)+1))∧L=[]) h2 ?_
 rintro _ _ ⟨rfl,rfl⟩
 conv=>whnf
 refine rdw ?_;repeat' ((with_reducible apply tw)<;>intro _)
 refine ⟨congrArg (fun b=>AV.d (.bool b)) ?_,rfl⟩
 unfold fullB quo
 rw [decide_eq_decide]
 show (((certsD (ofR p.dag.certs r)).length:Nat):Int)≥_↔_
 rw [hcl]
def readyB (p:Prim):Bool:=decide (p.said<p.round)&&(decide (p.round=1)||fullB p (p.round - 1))
theorem ready_ok (p:Prim) (hf:p.dag.fit) (hn:isN p.nodes=true) (hr:1≤p.round∧p.round≤1099511627776):ACalls Tryz.prog 84 [p.av] [] (fun av L=>av = .d (.bool (readyB p))∧L=[]):=by
 have h1:=full_ok p hf hn (p.round - 1) ⟨by omega,by omega⟩
 unfold readyB
 (refine acalls_go ttOk zOk foOk Tryz.func84 rfl Tryz.ntmps84 rfl false rfl ?_);(conv=>whnf)
 refine rdw ?_;repeat' ((with_reducible apply tw)<;>intro _)
 ·rename_i e1 e2
  replace e1:p.said<p.round:=e1
  replace e2:p.round=1:=e2
  exact ⟨congrArg (fun b=>AV.d (.bool b)) (by rw [decide_eq_true e1,decide_eq_true e2];rfl),rfl⟩
 ·rename_i e1 e2
  replace e1:p.said<p.round:=e1
  replace e2:p.round≠1:=e2
  refine ACalls.mono (post:=fun av L=>av = .d (.bool (fullB p (p.round - 1)))∧L=[]) h1 ?_
  rintro _ _ ⟨rfl,rfl⟩
  conv=>whnf
  exact ⟨congrArg (fun b=>AV.d (.bool b)) (by rw [decide_eq_true e1,decide_eq_false e2];simp),rfl⟩
 ·rename_i e1
  replace e1:¬p.said<p.round:=e1
  exact ⟨congrArg (fun b=>AV.d (.bool b)) (by rw [decide_eq_false e1];rfl),rfl⟩
theorem makef_ok (d:Int):ACalls Tryz.prog 82 [.d (.int .i64 d)] [] (fun av L=>av = .d (.bool (!decide (1≤d∧d≤65536)))∧L=[]):=by
 (refine acalls_go ttOk zOk foOk Tryz.func82 rfl Tryz.ntmps82 rfl false rfl ?_);(conv=>whnf)
 refine rdw ?_;repeat' ((with_reducible apply tw)<;>intro _)
 refine (digest_ok d).mono ?_
 rintro _ _ ⟨rfl,rfl⟩
 conv=>whnf
 exact ⟨rfl,rfl⟩
def digsB (l:List Int):Bool:=l.all fun d=>decide (1≤d∧d≤65536)
theorem indexMk_ok (l:List Int) (hl:few l):ACalls Tryz.prog 133 [.d (.sl 1 (nums l)),.fn 82 []] [] (fun av L=>(∃ z:Int,av = .d (.int .i64 z)∧(z≥0↔digsB l=false))∧L=[]):=by
 have hll:=nums_length l
 unfold few at hl
 (refine acalls_go ttOk zOk foOk Tryz.func133 rfl Tryz.ntmps133 rfl false rfl ?_);(conv=>whnf)
 refine loop_go ttOk zOk foOk (σ:=Nat) (fun j=>([(0,.d (.sl 1 (nums l))),(1,.fn 82 []),(7,.d (.int .i64 l.length)),(8,.d (.int .i64 j))],[])) (fun j=>j≤l.length∧∀ d∈l.take j,1≤d∧d≤65536) (fun j=>l.length - j) [0,1,7,8] ?_ ?_
 ·conv=>whnf
  exact ⟨0,by rw [hll];rfl,rfl,Nat.zero_le _,by simp⟩
 ·rintro j ⟨hj,hall⟩
  conv=>whnf
  refine rdw ?_;repeat' ((with_reducible apply tw)<;>intro _)
  ·rename_i h
   replace h:(j:Int)<l.length:=h
   refine Exists.elim (⟨_,List.getElem?_eq_getElem (by omega)⟩:∃ c,l[j]? = some c) fun d hd => ?_
   refine ⟨by omega,[.int .i64 d],nums_at hd,?_⟩
   conv=>whnf
   refine rdw ?_;repeat' ((with_reducible apply tw)<;>intro _)
   refine (makef_ok d).mono ?_
   rintro _ _ ⟨rfl,rfl⟩
   by_cases hdd:1≤d∧d≤65536
   ·rw [decide_eq_true hdd]
    conv=>whnf
    refine rdw ?_;repeat' ((with_reducible apply tw)<;>intro _)
    refine ⟨j+1,rfl,rfl,⟨by omega,fun x hx => ?_⟩,by omega⟩
    rw [List.take_add_one,hd] at hx
    rcases List.mem_append.1 hx with hx|hx
    ·exact hall x hx
    ·simp at hx;rw [hx];exact hdd
   ·rw [decide_eq_false hdd]
    conv=>whnf
    refine rdw ?_;repeat' ((with_reducible apply tw)<;>intro _)
    refine ⟨⟨_,rfl,fun _ => ?_,fun _=>by show (j:Int)≥0;omega⟩,rfl⟩
    unfold digsB
    rw [List.all_eq_false]
    exact ⟨d,List.mem_of_getElem? hd,by simpa using hdd⟩
  ·rename_i h
   replace h:¬(j:Int)<l.length:=h
   rw [List.take_of_length_le (by omega)] at hall
   have hb:digsB l=true:=by unfold digsB;rw [List.all_eq_true];intro x hx;simpa using hall x hx
   refine ⟨⟨_,rfl,fun h=>absurd h (by decide),fun h => ?_⟩,rfl⟩
   rw [hb] at h;cases h
theorem containsMk_ok (l:List Int) (hl:few l):ACalls Tryz.prog 81 [.d (.sl 1 (nums l)),.fn 82 []] [] (fun av L=>av = .d (.bool (!digsB l))∧L=[]):=by
 (refine acalls_go ttOk zOk foOk Tryz.func81 rfl Tryz.ntmps81 rfl false rfl ?_);(conv=>whnf)
 refine (indexMk_ok l hl).mono ?_
 rintro _ _ ⟨⟨z,rfl,hz⟩,rfl⟩
 conv=>whnf
 refine ⟨congrArg (fun b=>AV.d (.bool b)) ?_,rfl⟩
 cases hb:digsB l with
 | true=>exact decide_eq_false fun h=>by have:=hz.1 h;rw [hb] at this;cases this
 | false=>exact decide_eq_true (hz.2 hb)
def batsF (l:List Int):List Int:=l.foldl (fun acc d=>if acc.length<8∧d∉acc then acc++[d] else acc) []
theorem batsF_snoc (l:List Int) (d:Int):batsF (l++[d])=if (batsF l).length<8∧d∉batsF l then batsF l++[d] else batsF l:=by
 unfold batsF
 rw [List.foldl_append];rfl
theorem bats_fold_len:∀ (l acc:List Int),acc.length≤8→(l.foldl (fun acc d=>if acc.length<8∧d∉acc then acc++[d] else acc) acc).length≤8
 | [],acc,h=>h
 | d :: l,acc,h=>by
   rw [List.foldl_cons]
   refine bats_fold_len l _ ?_
   split
   ·rename_i h2;simp;omega
   ·exact h
theorem batsF_len (l:List Int):(batsF l).length≤8:=bats_fold_len l [] (Nat.zero_le _)
def parsF (p:Prim):List Int:=(ofR p.dag.certs (p.round - 1)).map (·.digest)
def headC (p:Prim) (l:List Int):Cert:=⟨p.id,p.round,sortI (batsF l),sortI (parsF p),0,[]⟩
theorem contains_lend (b:List Int) (hb:few b) (x:Int) (sh:Bool):ACalls Tryz.prog 135 [.arr 0,.d (.int .i64 x)] [.row 3 1 (nums b) sh] (fun av L=>av = .d (.bool (decide (x∈b)))∧L=[.row 3 1 (nums b) sh]) :=
 acalls_lend (flat_bool _) ⟨_,_,rfl,.inl (.inr (.inl ⟨0,_,_,_,_,rfl,rfl,rfl⟩)),_,_,rfl,.inl (.inl ⟨_,rfl,rfl⟩),rfl⟩ (contains_ok b hb x)
def zHdr:AB := .cells [.d (.int .i64 0),.d (.int .i64 0),.d .nils,.d .nils]
def hL (p:Prim) (bs ps:List Int):List AB:=[.cells (p.cs.map AV.d),zHdr,.cells [.d (.int .i64 p.id),.d (.int .i64 p.round),.arr 3,.arr 4],.row 3 1 (nums bs) false,.row 3 1 (nums ps) false]
set_option maxHeartbeats 4000000 in
theorem head_row (p:Prim) (hf:p.dag.fit) (hr:1≤p.round∧p.round≤1099511627776) (hdl:p.dag.certs.length≤100000) (l:List Int) (hl:few l) :
  ACalls Tryz.prog 85 [p.av,.d (.sl 1 (nums l))] [] (fun av L=>av = .agg [.d (.int .i64 p.id),.d (.int .i64 p.round),.arr 0,.arr 1]∧L=[.row 3 1 (nums (sortI (batsF l))) false,.row 3 1 (nums (sortI (parsF p))) false]):=by
 have hll:=nums_length l
 have hl':=hl
 unfold few at hl'
 have hof:=dagOf_ok p.dag hf (p.round - 1) ⟨by omega,by omega⟩
 have hol:(ofR p.dag.certs (p.round - 1)).length≤100000:=Nat.le_trans (List.length_filter_le ..) hdl
 obtain ⟨ol,hoe⟩:∃ ol,ofR p.dag.certs (p.round - 1)=ol:=⟨_,rfl⟩
 have hpe:parsF p=ol.map (·.digest):=by unfold parsF;rw [hoe]
 rw [hoe] at hof hol
 have hcl:=certsD_length ol
 (refine acalls_go ttOk zOk foOk Tryz.func85 rfl Tryz.ntmps85 rfl true rfl ?_);(conv=>whnf)
 refine rdz ?_;repeat' ((with_reducible apply tw)<;>intro _)
 refine aw_nilrowC [(2,2,3,1),(2,3,3,1)] rfl ?_
 refine loop_go ttOk zOk foOk (σ:=Nat) (fun j=>([(2,.ptr 0 0),(4,.ptr 1 0),(5,.ptr 2 0),(15,.d (.sl 1 (nums l))),(16,.d (.int .i64 l.length)),(17,.d (.int .i64 j))],hL p (batsF (l.take j)) [])) (fun j=>j≤l.length) (fun j=>l.length - j) [2,4,5,15,16,17] ?_ ?_
 ·conv=>whnf
  exact ⟨0,by rw [hll];rfl,rfl,Nat.zero_le _⟩
 ·intro j hj
  have hbl:=batsF_len (l.take j)
  obtain ⟨bs,hbs⟩:∃ bs,batsF (l.take j)=bs:=⟨_,rfl⟩
  rw [hbs] at hbl ⊢
  have hnb:=nums_length bs
  conv=>whnf
  refine rdz ?_;repeat' ((with_reducible apply tw)<;>intro _)
  ·rename_i h
   replace h:(j:Int)<l.length:=h
   refine Exists.elim (⟨_,List.getElem?_eq_getElem (by omega)⟩:∃ c,l[j]? = some c) fun d hd => ?_
   have hsn:batsF (l.take (j+1))=if bs.length<8∧d∉bs then bs++[d] else bs:=by rw [take_snoc hd,batsF_snoc,hbs]
   refine ⟨by omega,[.int .i64 d],nums_at hd,?_⟩
   conv=>whnf
   refine rdz ?_;repeat' ((with_reducible apply tw)<;>intro _)
   ·rename_i h8
    replace h8:(((nums bs).length:Nat):Int)<8:=h8
    (refine Or.inr ?_;(conv=>whnf))
    refine (contains_lend bs (by unfold few;omega) d false).mono ?_
    rintro _ _ ⟨rfl,rfl⟩
    by_cases hm:d∈bs
    ·rw [decide_eq_true hm]
     rw [if_neg (fun h=>h.2 hm)] at hsn
     conv=>whnf
     refine rdz ?_;repeat' ((with_reducible apply tw)<;>intro _)
     exact ⟨j+1,rfl,by rw [hsn];rfl,by omega,by omega⟩
    ·rw [decide_eq_false hm]
     rw [if_pos ⟨by omega,hm⟩] at hsn
     conv=>whnf
     refine rdz ?_;repeat' ((with_reducible apply tw)<;>intro _)
     refine ⟨by show ((nums bs).length+1) * 8≤_;omega,?_⟩
     conv=>whnf
     refine rdz ?_;repeat' ((with_reducible apply tw)<;>intro _)
     refine ⟨j+1,rfl,?_,by omega,by omega⟩
     rw [hsn,hL,← nums_apps]
     rfl
   ·rename_i h8
    replace h8:¬(((nums bs).length:Nat):Int)<8:=h8
    rw [if_neg (fun h=>h8 (by omega))] at hsn
    exact ⟨j+1,rfl,by rw [hsn];rfl,by omega,by omega⟩
  ·rename_i h
   replace h:¬(j:Int)<l.length:=h
   rw [List.take_of_length_le (by omega)] at hbs
   subst hbs
   (refine Or.inr ?_;(conv=>whnf))
   refine (sortI_ok (batsF l) (by omega)).mono ?_
   rintro _ _ ⟨rfl,rfl⟩
   conv=>whnf
   refine rdz ?_;repeat' ((with_reducible apply tw)<;>intro _)
   refine ACalls.mono (post:=fun av L=>av = .d (.sl 6 (certsD ol))∧L=[]) hof ?_
   rintro _ _ ⟨rfl,rfl⟩
   conv=>whnf
   refine rdz ?_;repeat' ((with_reducible apply tw)<;>intro _)
   refine loop_go ttOk zOk foOk (σ:=Nat) (fun j=>([(2,.ptr 0 0),(4,.ptr 1 0),(5,.ptr 2 0),(47,.d (.sl 6 (certsD ol))),(48,.d (.int .i64 ol.length)),(49,.d (.int .i64 j))],hL p (sortI (batsF l)) ((ol.take j).map (·.digest)))) (fun j=>j≤ol.length) (fun j=>ol.length - j) [2,4,5,47,48,49] ?_ ?_
   ·conv=>whnf
    exact ⟨0,by rw [hcl];rfl,rfl,Nat.zero_le _⟩
   ·intro i hi
    conv=>whnf
    refine rdz ?_;repeat' ((with_reducible apply tw)<;>intro _)
    ·rename_i e
     replace e:(i:Int)<ol.length:=e
     refine Exists.elim (⟨_,List.getElem?_eq_getElem (by omega)⟩:∃ c,ol[i]? = some c) fun c hc => ?_
     have hnl:(nums ((ol.take i).map (·.digest))).length≤100000:=by rw [nums_length];simp;omega
     refine ⟨by omega,c.cs,certsD_at hc,?_⟩
     conv=>whnf
     refine rdz ?_;repeat' ((with_reducible apply tw)<;>intro _)
     refine ⟨by show ((nums ((ol.take i).map (·.digest))).length+1) * 8≤_;omega,?_⟩
     conv=>whnf
     refine rdz ?_;repeat' ((with_reducible apply tw)<;>intro _)
     refine ⟨i+1,rfl,?_,by omega,by omega⟩
     rw [take_snoc hc,hL,List.map_append,← nums_apps]
     rfl
    ·rename_i e
     replace e:¬(i:Int)<ol.length:=e
     rw [List.take_of_length_le (by omega),← hpe]
     have hpl:(parsF p).length<4611686018427387904:=by rw [hpe,List.length_map];omega
     (refine Or.inr ?_;(conv=>whnf))
     refine (sortI_ok (parsF p) hpl).mono ?_
     rintro _ _ ⟨rfl,rfl⟩
     conv=>whnf
     refine rdz ?_;repeat' ((with_reducible apply tw)<;>intro _)
     exact ⟨rfl,rfl⟩
theorem headP_ok (p:Prim) (hf:p.dag.fit) (hr:1≤p.round∧p.round≤1099511627776) (hdl:p.dag.certs.length≤100000) (l:List Int) (hl:few l) :
  ACalls Tryz.prog 85 [p.av,.d (.sl 1 (nums l))] [] (fun av L=>av=(headC p l).hav∧L=[]):=by
 refine acalls_data (head_row p hf hr hdl l hl) ?_
 rintro _ _ ⟨rfl,rfl⟩
 conv=>whnf
 exact ⟨rfl,rfl⟩
end Go.Proofs.YtolkmjfkkkiboaaGreat
