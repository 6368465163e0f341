/- PrimaryWanted: contracts. -/
import Derived.Test.YtolkmjfkkkiboaaGreatPrimaryWantedCodP
set_option linter.unusedVariables false
set_option linter.unusedSimpArgs false
namespace Go.Proofs.YtolkmjfkkkiboaaGreat
open Go.Ab Go.RowKit Go.MapKept
attribute [local irreducible] ACalls AW ADraw Into fltB fnear
set_option maxRecDepth 100000
def eqM (a b:Msg):Prop:=a.kind=b.kind∧a.src=b.src∧a.dst=b.dst∧a.digest=b.digest∧a.ba=b.ba∧a.bn=b.bn∧b.txs=[]∧(a.head.author=b.head.author∧a.head.round=b.head.round∧a.head.bats=b.head.bats∧a.head.pars=b.head.pars)∧(a.cert.author=b.cert.author∧a.cert.round=b.cert.round∧a.cert.bats=b.cert.bats∧a.cert.pars=b.cert.pars∧a.cert.digest=b.cert.digest∧a.cert.sigs=b.cert.sigs)∧a.digs=b.digs
def fstC:Code→Code | .seq a _=>a|c=>c
def sndC:Code→Code | .seq _ b=>b|c=>c
def bodyC:Option Code→Code|some c=>c|none => .skip
theorem msg_cut (n:Int) (m:Msg) (rest:Code) (Q:Exit→AF→List AB→Prop) (h:acodeR Tryz.prog tt fo 136 0 rest Q [(5,.ptr 1 0),(13,.agg [.d (.int .i64 m.kind),.d (.int .i64 m.src),.d (.int .i64 m.dst),.d (.int .i64 0),.d (.int .i64 0),.d (.int .i64 0),.d .nils,.d (.int .i64 0),.d (.int .i64 0),.d .nils,.d .nils,.d (.int .i64 0),.d (.int .i64 0),.d .nils,.d .nils,.d (.int .i64 0),.d .nils,.d .nils]),(12,.d (.int .i64 m.dst)),(11,.ptr 0 2),(10,.d (.int .i64 m.src)),(9,.ptr 0 1),(8,.d (.int .i64 m.kind)),(7,.ptr 0 0),(4,.d (.bool false)),(2,.ptr 0 0),(0,m.av),(1,.d (.int .i64 n))] [.cells (m.cs.map AV.d),.cells [.d (.int .i64 m.kind),.d (.int .i64 m.src),.d (.int .i64 m.dst),.d (.int .i64 0),.d (.int .i64 0),.d (.int .i64 0),.d .nils,.d (.int .i64 0),.d (.int .i64 0),.d .nils,.d .nils,.d (.int .i64 0),.d (.int .i64 0),.d .nils,.d .nils,.d (.int .i64 0),.d .nils,.d .nils]]) :
  acodeR Tryz.prog tt fo 136 0 (.seq (fstC (bodyC Tryz.f109.body)) (.seq (fstC (sndC (bodyC Tryz.f109.body))) rest)) Q (argF [m.av,.d (.int .i64 n)] 0) []:=by
 conv=>whnf
 exact h
theorem eqTxs_n (l:List Tx):ACalls Tryz.prog 170 [.d (.sl 4 []),.d (.sl 4 (txsD l))] [] (fun av L=>av = .d (.bool (decide (l.length=0)))∧L=[]):=by
 have hl:(txsD l).length=l.length:=List.length_map ..
 cases l with
 | nil=>exact eqTxs_e
 | cons t r =>
   (refine acalls_go ttOk zOk foOk Tryz.func170 rfl Tryz.ntmps170 rfl false rfl ?_);(conv=>whnf)
   refine rdz ?_;repeat' ((with_reducible apply tw)<;>intro _)
   exact ⟨rfl,rfl⟩
theorem eqCert_ok (a b:Cert) (ha:fewL a):ACalls Tryz.prog 119 [a.av,b.av] [] (fun av L=>av = .d (.bool (decide (a.author=b.author∧a.round=b.round∧a.bats=b.bats∧a.pars=b.pars∧a.digest=b.digest∧a.sigs=b.sigs)))∧L=[]):=by
 have h1:=eqHeader_ok a b ⟨ha.bats,ha.pars⟩
 have h2:=eqNumbers_ok a.sigs b.sigs ha.sigs
 (refine acalls_go ttOk zOk foOk Tryz.func119 rfl Tryz.ntmps119 rfl false rfl ?_);(conv=>whnf)
 refine h1.mono ?_
 rintro _ _ ⟨rfl,rfl⟩
 by_cases k1:a.author=b.author∧a.round=b.round∧a.bats=b.bats∧a.pars=b.pars
 ·rw [decide_eq_true k1]
  obtain ⟨j1,j2,j3,j4⟩:=k1
  conv=>whnf
  refine rdz ?_;repeat' ((with_reducible apply tw)<;>intro _)
  ·rename_i k2
   refine h2.mono ?_
   rintro _ _ ⟨rfl,rfl⟩
   conv=>whnf
   refine ⟨?_,rfl⟩
   by_cases k3:a.sigs=b.sigs
   ·rw [decide_eq_true k3,decide_eq_true ⟨j1,j2,j3,j4,k2,k3⟩]
   ·rw [decide_eq_false k3,decide_eq_false (fun h=>k3 h.2.2.2.2.2)]
  ·rename_i k2
   rw [decide_eq_false (fun h=>k2 h.2.2.2.2.1)]
   exact ⟨rfl,rfl⟩
 ·rw [decide_eq_false k1]
  conv=>whnf
  refine rdz ?_;repeat' ((with_reducible apply tw)<;>intro _)
  rw [decide_eq_false (fun h=>k1 ⟨h.1,h.2.1,h.2.2.1,h.2.2.2.1⟩)]
  exact ⟨rfl,rfl⟩
theorem eqBatch_n (a b:Int) (l:List Tx) (x y:Int):ACalls Tryz.prog 118 [.agg [.d (.int .i64 a),.d (.int .i64 b),.d (.sl 4 [])],.agg [.d (.int .i64 x),.d (.int .i64 y),.d (.sl 4 (txsD l))]] [] (fun av L=>av = .d (.bool (decide (a=x∧b=y∧l=[])))∧L=[]):=by
 have h1:=eqTxs_n l
 (refine acalls_go ttOk zOk foOk Tryz.func118 rfl Tryz.ntmps118 rfl false rfl ?_);(conv=>whnf)
 refine rdz ?_;repeat' ((with_reducible apply tw)<;>intro _)
 ·rename_i k1 k2
  replace k1:a=x:=k1
  replace k2:b=y:=k2
  (refine (h1).mono ?_;rintro _ _ ⟨rfl,rfl⟩;(conv=>whnf))
  refine ⟨?_,rfl⟩
  cases l with
  | nil=>rw [decide_eq_true (p:=a=x∧b=y∧([]:List Tx)=[]) ⟨k1,k2,rfl⟩];rfl
  | cons t r=>rw [decide_eq_false (p:=a=x∧b=y∧t :: r=[]) (fun h=>by cases h.2.2)];rfl
 ·rename_i k1 k2
  replace k2:b≠y:=k2
  rw [decide_eq_false (fun h=>k2 h.2.1)]
  exact ⟨rfl,rfl⟩
 ·rename_i k1
  replace k1:a≠x:=k1
  rw [decide_eq_false (fun h=>k1 h.1)]
  exact ⟨rfl,rfl⟩
open Classical in
theorem eqMsgX_ok (a b:Msg) (fa:a.fine) (ha:a.txs=[]):ACalls Tryz.prog 59 [a.av,b.av] [] (fun av L=>av = .d (.bool (decide (eqM a b)))∧L=[]):=by
 have h1:=eqBatch_n a.ba a.bn b.txs b.ba b.bn
 have h2:=eqHeader_ok a.head b.head ⟨fa.head.bats,fa.head.pars⟩
 have h3:=eqCert_ok a.cert b.cert fa.cert
 have h4:=eqNumbers_ok a.digs b.digs fa.digs
 have e0:a.av=(⟨a.kind,a.src,a.dst,a.digest,a.ba,a.bn,[],a.head,a.cert,a.digs⟩:Msg).av:=by rw [← ha]
 rw [e0]
 (refine acalls_go ttOk zOk foOk Tryz.func59 rfl Tryz.ntmps59 rfl false rfl ?_);(conv=>whnf)
 refine rdz ?_;repeat' ((with_reducible apply tw)<;>intro _)
 ·rename_i k1 k2 k3 k4
  refine h1.mono ?_
  rintro _ _ ⟨rfl,rfl⟩
  by_cases j1:a.ba=b.ba∧a.bn=b.bn∧b.txs=[]
  ·rw [@decide_eq_true _ (_) j1]
   conv=>whnf
   refine rdz ?_;repeat' ((with_reducible apply tw)<;>intro _)
   refine h2.mono ?_
   rintro _ _ ⟨rfl,rfl⟩
   by_cases j2:a.head.author=b.head.author∧a.head.round=b.head.round∧a.head.bats=b.head.bats∧a.head.pars=b.head.pars
   ·rw [@decide_eq_true _ (_) j2]
    conv=>whnf
    refine rdz ?_;repeat' ((with_reducible apply tw)<;>intro _)
    refine h3.mono ?_
    rintro _ _ ⟨rfl,rfl⟩
    by_cases j3:a.cert.author=b.cert.author∧a.cert.round=b.cert.round∧a.cert.bats=b.cert.bats∧a.cert.pars=b.cert.pars∧a.cert.digest=b.cert.digest∧a.cert.sigs=b.cert.sigs
    ·rw [@decide_eq_true _ (_) j3]
     conv=>whnf
     refine rdz ?_;repeat' ((with_reducible apply tw)<;>intro _)
     refine h4.mono ?_
     rintro _ _ ⟨rfl,rfl⟩
     conv=>whnf
     refine ⟨?_,rfl⟩
     congr 2
     rw [decide_eq_decide]
     exact ⟨fun h=>⟨k1,k2,k3,k4,j1.1,j1.2.1,j1.2.2,j2,j3,h⟩,fun h=>h.2.2.2.2.2.2.2.2.2⟩
    ·rw [@decide_eq_false _ (_) j3]
     conv=>whnf
     refine rdz ?_;repeat' ((with_reducible apply tw)<;>intro _)
     rw [decide_eq_false (fun h:eqM a b=>j3 h.2.2.2.2.2.2.2.2.1)]
     exact ⟨rfl,rfl⟩
   ·rw [@decide_eq_false _ (_) j2]
    conv=>whnf
    refine rdz ?_;repeat' ((with_reducible apply tw)<;>intro _)
    rw [decide_eq_false (fun h:eqM a b=>j2 h.2.2.2.2.2.2.2.1)]
    exact ⟨rfl,rfl⟩
  ·rw [@decide_eq_false _ (_) j1]
   conv=>whnf
   refine rdz ?_;repeat' ((with_reducible apply tw)<;>intro _)
   rw [decide_eq_false (fun h:eqM a b=>j1 ⟨h.2.2.2.2.1,h.2.2.2.2.2.1,h.2.2.2.2.2.2.1⟩)]
   exact ⟨rfl,rfl⟩
 ·rename_i k1 k2 k3 k4
  rw [decide_eq_false (fun h:eqM a b=>k4 h.2.2.2.1)]
  exact ⟨rfl,rfl⟩
 ·rename_i k1 k2 k3
  rw [decide_eq_false (fun h:eqM a b=>k3 h.2.2.1)]
  exact ⟨rfl,rfl⟩
 ·rename_i k1 k2
  rw [decide_eq_false (fun h:eqM a b=>k2 h.2.1)]
  exact ⟨rfl,rfl⟩
 ·rename_i k1
  rw [decide_eq_false (fun h:eqM a b=>k1 h.1)]
  exact ⟨rfl,rfl⟩
def xMsg (m:Msg) (g h c d:Bool):Msg:=⟨m.kind,m.src,m.dst,if g then m.digest else 0,0,0,[],if h then m.head else cz0,if c then m.cert else cz0,if d then m.digs else []⟩
theorem xMsg_fine {m:Msg} (hf:m.fine) (g h c d:Bool):(xMsg m g h c d).fine:=by
 refine ⟨Nat.zero_le _,?_,?_,?_⟩
 ·unfold xMsg;cases h;exact fit_few z_fit;exact hf.head
 ·unfold xMsg;cases c;exact fit_few z_fit;exact hf.cert
 ·unfold xMsg;cases d;exact Nat.zero_le _;exact hf.digs
structure okEnds (n:Int) (m:Msg):Prop where
 isn:isN n=true
 src:1≤m.src∧m.src≤n
 dst:1≤m.dst∧m.dst≤n
 ne:m.src≠m.dst
theorem only_iff {m:Msg} (hb:m.kind≠1∧m.kind≠3):eqM (xMsg m (decide (m.kind≤5)) (decide (m.kind=4)) (decide (m.kind=6)) (decide (7≤m.kind))) m↔onlyKind m:=by
 unfold eqM xMsg
 constructor
 ·rintro ⟨-,-,-,e4,e5,e6,e7,e8,e9,e10⟩
  refine ⟨fun h => ?_,fun _=>⟨e5.symm,e6.symm,e7⟩,fun h => ?_,fun h => ?_,fun h => ?_⟩
  ·rw [decide_eq_false (show ¬m.kind≤5 by omega)] at e4;exact e4.symm
  ·rw [decide_eq_false h] at e8;exact ⟨e8.1.symm,e8.2.1.symm,e8.2.2.1.symm,e8.2.2.2.symm⟩
  ·rw [decide_eq_false h] at e9;exact ⟨e9.1.symm,e9.2.1.symm,e9.2.2.1.symm,e9.2.2.2.1.symm,e9.2.2.2.2.1.symm,e9.2.2.2.2.2.symm⟩
  ·rw [decide_eq_false (show ¬7≤m.kind by omega)] at e10;exact e10.symm
 ·intro h
  obtain ⟨b1,b2,b3⟩:=h.bat hb
  refine ⟨rfl,rfl,rfl,?_,b1.symm,b2.symm,b3,?_,?_,?_⟩
  ·by_cases k:m.kind≤5
   ·rw [decide_eq_true k];rfl
   ·rw [decide_eq_false k];exact (h.dig (by omega)).symm
  ·by_cases k:m.kind=4
   ·rw [decide_eq_true k];exact ⟨rfl,rfl,rfl,rfl⟩
   ·obtain ⟨c1,c2,c3,c4⟩:=h.head k
    rw [decide_eq_false k];exact ⟨c1.symm,c2.symm,c3.symm,c4.symm⟩
  ·by_cases k:m.kind=6
   ·rw [decide_eq_true k];exact ⟨rfl,rfl,rfl,rfl,rfl,rfl⟩
   ·obtain ⟨c1,c2,c3,c4,c5,c6⟩:=h.cert k
    rw [decide_eq_false k];exact ⟨c1.symm,c2.symm,c3.symm,c4.symm,c5.symm,c6.symm⟩
  ·by_cases k:7≤m.kind
   ·rw [decide_eq_true k];rfl
   ·rw [decide_eq_false k];exact (h.digs (by omega)).symm
open Classical in
theorem msg_dec {n:Int} {m:Msg} (he:okEnds n m) (hk:okKind n m):decide (onlyKind m)=decide (okMsg n m):=by
 rw [decide_eq_decide]
 exact ⟨fun h=>⟨he.isn,he.src,he.dst,he.ne,hk,h⟩,fun h=>h.only⟩
open Classical in
theorem pageX5 {n:Int} {m:Msg} (hf:m.fine) (hk:m.kind=5):ACalls Tryz.prog 109 [m.av,.d (.int .i64 n)] [] (fun av L=>av = .d (.bool (decide (okMsg n m)))∧L=[]):=by
 have h32:=rMay_ok n
 have h46:=rDigest_ok m.digest
 have heq:=eqMsgX_ok (xMsg m true false false false) m (xMsg_fine hf ..) rfl
 rw [show eqM (xMsg m true false false false) m=onlyKind m from propext (by rw [← only_iff (m:=m) (by omega),hk];exact Iff.rfl)] at heq
 refine acalls_go ttOk zOk foOk Tryz.func109 rfl Tryz.ntmps109 rfl false rfl ?_
 refine msg_cut n m _ _ ?_
 conv=>whnf
 refine rdw ?_;repeat' ((with_reducible apply tw)<;>intro _)
 obtain ⟨b,hb⟩:∃ b,isN n=b:=⟨_,rfl⟩
 rw [hb] at h32
 refine h32.mono ?_
 rintro _ _ ⟨rfl,rfl⟩
 cases b
 ·conv=>whnf
  refine rdw ?_;repeat' ((with_reducible apply tw)<;>intro _)
  exact ⟨by rw [decide_eq_false (fun h:okMsg n m=>by have:=h.isn;rw [hb] at this;cases this)];rfl,rfl⟩
 conv=>whnf
 refine rdw ?_;repeat' ((with_reducible apply tw)<;>intro _)
 ·rename_i k
  replace k:m.src<1:=k
  exact ⟨by rw [decide_eq_false (fun h:okMsg n m=>by have:=h.src;omega)];rfl,rfl⟩
 ·rename_i k0 k
  replace k:m.src>n:=k
  exact ⟨by rw [decide_eq_false (fun h:okMsg n m=>by have:=h.src;omega)];rfl,rfl⟩
 ·rename_i k
  replace k:m.dst<1:=k
  exact ⟨by rw [decide_eq_false (fun h:okMsg n m=>by have:=h.dst;omega)];rfl,rfl⟩
 ·rename_i k
  replace k:m.dst>n:=k
  exact ⟨by rw [decide_eq_false (fun h:okMsg n m=>by have:=h.dst;omega)];rfl,rfl⟩
 ·rename_i k
  replace k:m.src=m.dst:=k
  exact ⟨by rw [decide_eq_false (fun h:okMsg n m=>h.ne k)];rfl,rfl⟩
 all_goals first
  | (exfalso;omega)
  | skip
 have he:okEnds n m:=⟨hb,⟨(show 1≤m.src by have:¬m.src<1:=(by assumption);omega),(show m.src≤n by have:¬m.src>n:=(by assumption);omega)⟩,⟨(show 1≤m.dst by have:¬m.dst<1:=(by assumption);omega),(show m.dst≤n by have:¬m.dst>n:=(by assumption);omega)⟩,by assumption⟩
 refine (h46).mono ?_
 rintro _ _ ⟨rfl,rfl⟩
 by_cases j:1≤m.digest∧m.digest≤65536
 ·rw [decide_eq_true j]
  have hok:okKind n m:=⟨by omega,fun h=>j,fun h=>absurd h (by omega),fun h=>absurd h (by omega),fun h=>absurd h (by omega),fun h=>absurd h (by omega)⟩
  conv=>whnf
  refine rdw ?_;repeat' ((with_reducible apply tw)<;>intro _)
  refine (acalls_nw (avs':=[(xMsg m true false false false).av,m.av]) heq (.cons ?_ (.cons (.refl _) .nil))).mono ?_
  ·refine .agg ?_
   repeat (first|exact .nil|refine .cons (.refl _) ?_|refine .cons (.nils _ (by decide)) ?_)
  rintro _ _ ⟨rfl,rfl⟩
  conv=>whnf
  rw [msg_dec he hok]
  exact ⟨rfl,rfl⟩
 ·rw [decide_eq_false j]
  conv=>whnf
  refine rdw ?_;repeat' ((with_reducible apply tw)<;>intro _)
  exact ⟨by rw [decide_eq_false (fun h:okMsg n m=>j (h.ok.dig (by omega)))];rfl,rfl⟩
open Classical in
theorem pageX8 {n:Int} {m:Msg} (hf:m.fine) (hk:m.kind=8):ACalls Tryz.prog 109 [m.av,.d (.int .i64 n)] [] (fun av L=>av = .d (.bool (decide (okMsg n m)))∧L=[]):=by
 have h32:=rMay_ok n
 have h91:=rdigests_ok m.digs hf.digs 16
 have hll:=nums_length m.digs
 have heq:=eqMsgX_ok (xMsg m false false false true) m (xMsg_fine hf ..) rfl
 rw [show eqM (xMsg m false false false true) m=onlyKind m from propext (by rw [← only_iff (m:=m) (by omega),hk];exact Iff.rfl)] at heq
 refine acalls_go ttOk zOk foOk Tryz.func109 rfl Tryz.ntmps109 rfl false rfl ?_
 refine msg_cut n m _ _ ?_
 conv=>whnf
 refine rdw ?_;repeat' ((with_reducible apply tw)<;>intro _)
 obtain ⟨b,hb⟩:∃ b,isN n=b:=⟨_,rfl⟩
 rw [hb] at h32
 refine h32.mono ?_
 rintro _ _ ⟨rfl,rfl⟩
 cases b
 ·conv=>whnf
  refine rdw ?_;repeat' ((with_reducible apply tw)<;>intro _)
  exact ⟨by rw [decide_eq_false (fun h:okMsg n m=>by have:=h.isn;rw [hb] at this;cases this)];rfl,rfl⟩
 conv=>whnf
 refine rdw ?_;repeat' ((with_reducible apply tw)<;>intro _)
 ·rename_i k
  replace k:m.src<1:=k
  exact ⟨by rw [decide_eq_false (fun h:okMsg n m=>by have:=h.src;omega)];rfl,rfl⟩
 ·rename_i k0 k
  replace k:m.src>n:=k
  exact ⟨by rw [decide_eq_false (fun h:okMsg n m=>by have:=h.src;omega)];rfl,rfl⟩
 ·rename_i k
  replace k:m.dst<1:=k
  exact ⟨by rw [decide_eq_false (fun h:okMsg n m=>by have:=h.dst;omega)];rfl,rfl⟩
 ·rename_i k
  replace k:m.dst>n:=k
  exact ⟨by rw [decide_eq_false (fun h:okMsg n m=>by have:=h.dst;omega)];rfl,rfl⟩
 ·rename_i k
  replace k:m.src=m.dst:=k
  exact ⟨by rw [decide_eq_false (fun h:okMsg n m=>h.ne k)];rfl,rfl⟩
 all_goals first
  | (exfalso;omega)
  | skip
 have he:okEnds n m:=⟨hb,⟨(show 1≤m.src by have:¬m.src<1:=(by assumption);omega),(show m.src≤n by have:¬m.src>n:=(by assumption);omega)⟩,⟨(show 1≤m.dst by have:¬m.dst<1:=(by assumption);omega),(show m.dst≤n by have:¬m.dst>n:=(by assumption);omega)⟩,by assumption⟩
 ·rename_i k
  replace k:((nums m.digs).length:Int)≥1:=k
  refine (h91).mono ?_
  rintro _ _ ⟨rfl,rfl⟩
  by_cases j:(m.digs.length:Int)≤16∧riseB m.digs 1 65536
  ·rw [decide_eq_true j]
   have hok:okKind n m:=⟨by omega,fun h=>absurd h (by omega),fun h=>absurd h (by omega),fun h=>absurd h (by omega),fun h=>absurd h (by omega),fun h=>⟨⟨by omega,by have:=j.1;omega⟩,j.2⟩⟩
   conv=>whnf
   refine rdw ?_;repeat' ((with_reducible apply tw)<;>intro _)
   refine (acalls_nw (avs':=[(xMsg m false false false true).av,m.av]) heq (.cons ?_ (.cons (.refl _) .nil))).mono ?_
   ·refine .agg ?_
    repeat (first|exact .nil|refine .cons (.refl _) ?_|refine .cons (.nils _ (by decide)) ?_)
   rintro _ _ ⟨rfl,rfl⟩
   conv=>whnf
   rw [msg_dec he hok]
   exact ⟨rfl,rfl⟩
  ·rw [decide_eq_false j]
   conv=>whnf
   refine rdw ?_;repeat' ((with_reducible apply tw)<;>intro _)
   exact ⟨by rw [decide_eq_false (fun h:okMsg n m=>j ⟨by have:=(h.ok.digs (by omega)).1.2;omega,(h.ok.digs (by omega)).2⟩)];rfl,rfl⟩
 ·rename_i k
  replace k:¬((nums m.digs).length:Int)≥1:=k
  exact ⟨by rw [decide_eq_false (fun h:okMsg n m=>by have:=(h.ok.digs (by omega)).1.1;omega)];rfl,rfl⟩
end Go.Proofs.YtolkmjfkkkiboaaGreat
