/- PrimaryComes: contracts. -/
import Derived.Test.YtolkmjfkkkiboaaGreatPrimaryComesCodP
set_option linter.unusedVariables false
set_option linter.unusedSimpArgs false
namespace Go.Proofs.YtolkmjfkkkiboaaGreat
open Go.Ab Go.RowKit Go.MapKept
attribute [local irreducible] ACalls AW ADraw Into fltB fnear
set_option maxRecDepth 100000
def eqM (a b:Msg):Prop:=a.kind=b.kind∧a.src=b.src∧a.dst=b.dst∧a.digest=b.digest∧a.ba=b.ba∧a.bn=b.bn∧b.txs=[]∧(a.head.author=b.head.author∧a.head.round=b.head.round∧a.head.bats=b.head.bats∧a.head.pars=b.head.pars)∧(a.cert.author=b.cert.author∧a.cert.round=b.cert.round∧a.cert.bats=b.cert.bats∧a.cert.pars=b.cert.pars∧a.cert.digest=b.cert.digest∧a.cert.sigs=b.cert.sigs)∧a.digs=b.digs
def fstC:Code→Code | .seq a _=>a|c=>c
def sndC:Code→Code | .seq _ b=>b|c=>c
def bodyC:Option Code→Code|some c=>c|none => .skip
theorem msg_cut (n:Int) (m:Msg) (rest:Code) (Q:Exit→AF→List AB→Prop) (h:acodeR Tryz.prog tt fo 136 0 rest Q [(5,.ptr 1 0),(13,.agg [.d (.int .i64 m.kind),.d (.int .i64 m.src),.d (.int .i64 m.dst),.d (.int .i64 0),.d (.int .i64 0),.d (.int .i64 0),.d .nils,.d (.int .i64 0),.d (.int .i64 0),.d .nils,.d .nils,.d (.int .i64 0),.d (.int .i64 0),.d .nils,.d .nils,.d (.int .i64 0),.d .nils,.d .nils]),(12,.d (.int .i64 m.dst)),(11,.ptr 0 2),(10,.d (.int .i64 m.src)),(9,.ptr 0 1),(8,.d (.int .i64 m.kind)),(7,.ptr 0 0),(4,.d (.bool false)),(2,.ptr 0 0),(0,m.av),(1,.d (.int .i64 n))] [.cells (m.cs.map AV.d),.cells [.d (.int .i64 m.kind),.d (.int .i64 m.src),.d (.int .i64 m.dst),.d (.int .i64 0),.d (.int .i64 0),.d (.int .i64 0),.d .nils,.d (.int .i64 0),.d (.int .i64 0),.d .nils,.d .nils,.d (.int .i64 0),.d (.int .i64 0),.d .nils,.d .nils,.d (.int .i64 0),.d .nils,.d .nils]]) :
  acodeR Tryz.prog tt fo 136 0 (.seq (fstC (bodyC Tryz.f109.body)) (.seq (fstC (sndC (bodyC Tryz.f109.body))) rest)) Q (argF [m.av,.d (.int .i64 n)] 0) []:=by
 conv=>whnf
 exact h
theorem eqTxs_n (l:List Tx):ACalls Tryz.prog 170 [.d (.sl 4 []),.d (.sl 4 (txsD l))] [] (fun av L=>av = .d (.bool (decide (l.length=0)))∧L=[]):=by
 have hl:(txsD l).length=l.length:=List.length_map ..
 cases l with
 | nil=>exact eqTxs_e
 | cons t r =>
   (refine acalls_go ttOk zOk foOk Tryz.func170 rfl Tryz.ntmps170 rfl false rfl ?_);(conv=>whnf)
   refine rdz ?_;repeat' ((with_reducible apply tw)<;>intro _)
   exact ⟨rfl,rfl⟩
theorem eqCert_ok (a b:Cert) (ha:fewL a):ACalls Tryz.prog 119 [a.av,b.av] [] (fun av L=>av = .d (.bool (decide (a.author=b.author∧a.round=b.round∧a.bats=b.bats∧a.pars=b.pars∧a.digest=b.digest∧a.sigs=b.sigs)))∧L=[]):=by
 have h1:=eqHeader_ok a b ⟨ha.bats,ha.pars⟩
 have h2:=eqNumbers_ok a.sigs b.sigs ha.sigs
 (refine acalls_go ttOk zOk foOk Tryz.func119 rfl Tryz.ntmps119 rfl false rfl ?_);(conv=>whnf)
 refine h1.mono ?_
 rintro _ _ ⟨rfl,rfl⟩
 by_cases k1:a.author=b.author∧a.round=b.round∧a.bats=b.bats∧a.pars=b.pars
 ·rw [decide_eq_true k1]
  obtain ⟨j1,j2,j3,j4⟩:=k1
  conv=>whnf
  refine rdz ?_;repeat' ((with_reducible apply tw)<;>intro _)
  ·rename_i k2
   refine h2.mono ?_
   rintro _ _ ⟨rfl,rfl⟩
   conv=>whnf
   refine ⟨?_,rfl⟩
   by_cases k3:a.sigs=b.sigs
   ·rw [decide_eq_true k3,decide_eq_true ⟨j1,j2,j3,j4,k2,k3⟩]
   ·rw [decide_eq_false k3,decide_eq_false (fun h=>k3 h.2.2.2.2.2)]
  ·rename_i k2
   rw [decide_eq_false (fun h=>k2 h.2.2.2.2.1)]
   exact ⟨rfl,rfl⟩
 ·rw [decide_eq_false k1]
  conv=>whnf
  refine rdz ?_;repeat' ((with_reducible apply tw)<;>intro _)
  rw [decide_eq_false (fun h=>k1 ⟨h.1,h.2.1,h.2.2.1,h.2.2.2.1⟩)]
  exact ⟨rfl,rfl⟩
theorem eqBatch_n (a b:Int) (l:List Tx) (x y:Int):ACalls Tryz.prog 118 [.agg [.d (.int .i64 a),.d (.int .i64 b),.d (.sl 4 [])],.agg [.d (.int .i64 x),.d (.int .i64 y),.d (.sl 4 (txsD l))]] [] (fun av L=>av = .d (.bool (decide (a=x∧b=y∧l=[])))∧L=[]):=by
 have h1:=eqTxs_n l
 (refine acalls_go ttOk zOk foOk Tryz.func118 rfl Tryz.ntmps118 rfl false rfl ?_);(conv=>whnf)
 refine rdz ?_;repeat' ((with_reducible apply tw)<;>intro _)
 ·rename_i k1 k2
  replace k1:a=x:=k1
  replace k2:b=y:=k2
  (refine (h1).mono ?_;rintro _ _ ⟨rfl,rfl⟩;(conv=>whnf))
  refine ⟨?_,rfl⟩
  cases l with
  | nil=>rw [decide_eq_true (p:=a=x∧b=y∧([]:List Tx)=[]) ⟨k1,k2,rfl⟩];rfl
  | cons t r=>rw [decide_eq_false (p:=a=x∧b=y∧t :: r=[]) (fun h=>by cases h.2.2)];rfl
 ·rename_i k1 k2
  replace k2:b≠y:=k2
  rw [decide_eq_false (fun h=>k2 h.2.1)]
  exact ⟨rfl,rfl⟩
 ·rename_i k1
  replace k1:a≠x:=k1
  rw [decide_eq_false (fun h=>k1 h.1)]
  exact ⟨rfl,rfl⟩
open Classical in
theorem eqMsgX_ok (a b:Msg) (fa:a.fine) (ha:a.txs=[]):ACalls Tryz.prog 59 [a.av,b.av] [] (fun av L=>av = .d (.bool (decide (eqM a b)))∧L=[]):=by
 have h1:=eqBatch_n a.ba a.bn b.txs b.ba b.bn
 have h2:=eqHeader_ok a.head b.head ⟨fa.head.bats,fa.head.pars⟩
 have h3:=eqCert_ok a.cert b.cert fa.cert
 have h4:=eqNumbers_ok a.digs b.digs fa.digs
 have e0:a.av=(⟨a.kind,a.src,a.dst,a.digest,a.ba,a.bn,[],a.head,a.cert,a.digs⟩:Msg).av:=by rw [← ha]
 rw [e0]
 (refine acalls_go ttOk zOk foOk Tryz.func59 rfl Tryz.ntmps59 rfl false rfl ?_);(conv=>whnf)
 refine rdz ?_;repeat' ((with_reducible apply tw)<;>intro _)
 ·rename_i k1 k2 k3 k4
  refine h1.mono ?_
  rintro _ _ ⟨rfl,rfl⟩
  by_cases j1:a.ba=b.ba∧a.bn=b.bn∧b.txs=[]
  ·rw [@decide_eq_true _ (_) j1]
   conv=>whnf
   refine rdz ?_;repeat' ((with_reducible apply tw)<;>intro _)
   refine h2.mono ?_
   rintro _ _ ⟨rfl,rfl⟩
   by_cases j2:a.head.author=b.head.author∧a.head.round=b.head.round∧a.head.bats=b.head.bats∧a.head.pars=b.head.pars
   ·rw [@decide_eq_true _ (_) j2]
    conv=>whnf
    refine rdz ?_;repeat' ((with_reducible apply tw)<;>intro _)
    refine h3.mono ?_
    rintro _ _ ⟨rfl,rfl⟩
    by_cases j3:a.cert.author=b.cert.author∧a.cert.round=b.cert.round∧a.cert.bats=b.cert.bats∧a.cert.pars=b.cert.pars∧a.cert.digest=b.cert.digest∧a.cert.sigs=b.cert.sigs
    ·rw [@decide_eq_true _ (_) j3]
     conv=>whnf
     refine rdz ?_;repeat' ((with_reducible apply tw)<;>intro _)
     refine h4.mono ?_
     rintro _ _ ⟨rfl,rfl⟩
     conv=>whnf
     refine ⟨?_,rfl⟩
     congr 2
     rw [decide_eq_decide]
     exact ⟨fun h=>⟨k1,k2,k3,k4,j1.1,j1.2.1,j1.2.2,j2,j3,h⟩,fun h=>h.2.2.2.2.2.2.2.2.2⟩
    ·rw [@decide_eq_false _ (_) j3]
     conv=>whnf
     refine rdz ?_;repeat' ((with_reducible apply tw)<;>intro _)
     rw [decide_eq_false (fun h:eqM a b=>j3 h.2.2.2.2.2.2.2.2.1)]
     exact ⟨rfl,rfl⟩
   ·rw [@decide_eq_false _ (_) j2]
    conv=>whnf
    refine rdz ?_;repeat' ((with_reducible apply tw)<;>intro _)
    rw [decide_eq_false (fun h:eqM a b=>j2 h.2.2.2.2.2.2.2.1)]
    exact ⟨rfl,rfl⟩
  ·rw [@decide_eq_false _ (_) j1]
   conv=>whnf
   refine rdz ?_;repeat' ((with_reducible apply tw)<;>intro _)
   rw [decide_eq_false (fun h:eqM a b=>j1 ⟨h.2.2.2.2.1,h.2.2.2.2.2.1,h.2.2.2.2.2.2.1⟩)]
   exact ⟨rfl,rfl⟩
 ·rename_i k1 k2 k3 k4
  rw [decide_eq_false (fun h:eqM a b=>k4 h.2.2.2.1)]
  exact ⟨rfl,rfl⟩
 ·rename_i k1 k2 k3
  rw [decide_eq_false (fun h:eqM a b=>k3 h.2.2.1)]
  exact ⟨rfl,rfl⟩
 ·rename_i k1 k2
  rw [decide_eq_false (fun h:eqM a b=>k2 h.2.1)]
  exact ⟨rfl,rfl⟩
 ·rename_i k1
  rw [decide_eq_false (fun h:eqM a b=>k1 h.1)]
  exact ⟨rfl,rfl⟩
def xMsg (m:Msg) (g h c d:Bool):Msg:=⟨m.kind,m.src,m.dst,if g then m.digest else 0,0,0,[],if h then m.head else cz0,if c then m.cert else cz0,if d then m.digs else []⟩
theorem xMsg_fine {m:Msg} (hf:m.fine) (g h c d:Bool):(xMsg m g h c d).fine:=by
 refine ⟨Nat.zero_le _,?_,?_,?_⟩
 ·unfold xMsg;cases h;exact fit_few z_fit;exact hf.head
 ·unfold xMsg;cases c;exact fit_few z_fit;exact hf.cert
 ·unfold xMsg;cases d;exact Nat.zero_le _;exact hf.digs
structure okEnds (n:Int) (m:Msg):Prop where
 isn:isN n=true
 src:1≤m.src∧m.src≤n
 dst:1≤m.dst∧m.dst≤n
 ne:m.src≠m.dst
theorem only_iff {m:Msg} (hb:m.kind≠1∧m.kind≠3):eqM (xMsg m (decide (m.kind≤5)) (decide (m.kind=4)) (decide (m.kind=6)) (decide (7≤m.kind))) m↔onlyKind m:=by
 unfold eqM xMsg
 constructor
 ·rintro ⟨-,-,-,e4,e5,e6,e7,e8,e9,e10⟩
  refine ⟨fun h => ?_,fun _=>⟨e5.symm,e6.symm,e7⟩,fun h => ?_,fun h => ?_,fun h => ?_⟩
  ·rw [decide_eq_false (show ¬m.kind≤5 by omega)] at e4;exact e4.symm
  ·rw [decide_eq_false h] at e8;exact ⟨e8.1.symm,e8.2.1.symm,e8.2.2.1.symm,e8.2.2.2.symm⟩
  ·rw [decide_eq_false h] at e9;exact ⟨e9.1.symm,e9.2.1.symm,e9.2.2.1.symm,e9.2.2.2.1.symm,e9.2.2.2.2.1.symm,e9.2.2.2.2.2.symm⟩
  ·rw [decide_eq_false (show ¬7≤m.kind by omega)] at e10;exact e10.symm
 ·intro h
  obtain ⟨b1,b2,b3⟩:=h.bat hb
  refine ⟨rfl,rfl,rfl,?_,b1.symm,b2.symm,b3,?_,?_,?_⟩
  ·by_cases k:m.kind≤5
   ·rw [decide_eq_true k];rfl
   ·rw [decide_eq_false k];exact (h.dig (by omega)).symm
  ·by_cases k:m.kind=4
   ·rw [decide_eq_true k];exact ⟨rfl,rfl,rfl,rfl⟩
   ·obtain ⟨c1,c2,c3,c4⟩:=h.head k
    rw [decide_eq_false k];exact ⟨c1.symm,c2.symm,c3.symm,c4.symm⟩
  ·by_cases k:m.kind=6
   ·rw [decide_eq_true k];exact ⟨rfl,rfl,rfl,rfl,rfl,rfl⟩
   ·obtain ⟨c1,c2,c3,c4,c5,c6⟩:=h.cert k
    rw [decide_eq_false k];exact ⟨c1.symm,c2.symm,c3.symm,c4.symm,c5.symm,c6.symm⟩
  ·by_cases k:7≤m.kind
   ·rw [decide_eq_true k];rfl
   ·rw [decide_eq_false k];exact (h.digs (by omega)).symm
open Classical in
theorem msg_dec {n:Int} {m:Msg} (he:okEnds n m) (hk:okKind n m):decide (onlyKind m)=decide (okMsg n m):=by
 rw [decide_eq_decide]
 exact ⟨fun h=>⟨he.isn,he.src,he.dst,he.ne,hk,h⟩,fun h=>h.only⟩
open Classical in
theorem pageX5 {n:Int} {m:Msg} (hf:m.fine) (hk:m.kind=5):ACalls Tryz.prog 109 [m.av,.d (.int .i64 n)] [] (fun av L=>av = .d (.bool (decide (okMsg n m)))∧L=[]):=by
 have h32:=rMay_ok n
 have h46:=rDigest_ok m.digest
 have heq:=eqMsgX_ok (xMsg m true false false false) m (xMsg_fine hf ..) rfl
 rw [show eqM (xMsg m true false false false) m=onlyKind m from propext (by rw [← only_iff (m:=m) (by omega),hk];exact Iff.rfl)] at heq
 refine acalls_go ttOk zOk foOk Tryz.func109 rfl Tryz.ntmps109 rfl false rfl ?_
 refine msg_cut n m _ _ ?_
 conv=>whnf
 refine rdw ?_;repeat' ((with_reducible apply tw)<;>intro _)
 obtain ⟨b,hb⟩:∃ b,isN n=b:=⟨_,rfl⟩
 rw [hb] at h32
 refine h32.mono ?_
 rintro _ _ ⟨rfl,rfl⟩
 cases b
 ·conv=>whnf
  refine rdw ?_;repeat' ((with_reducible apply tw)<;>intro _)
  exact ⟨by rw [decide_eq_false (fun h:okMsg n m=>by have:=h.isn;rw [hb] at this;cases this)];rfl,rfl⟩
 conv=>whnf
 refine rdw ?_;repeat' ((with_reducible apply tw)<;>intro _)
 ·rename_i k
  replace k:m.src<1:=k
  exact ⟨by rw [decide_eq_false (fun h:okMsg n m=>by have:=h.src;omega)];rfl,rfl⟩
 ·rename_i k0 k
  replace k:m.src>n:=k
  exact ⟨by rw [decide_eq_false (fun h:okMsg n m=>by have:=h.src;omega)];rfl,rfl⟩
 ·rename_i k
  replace k:m.dst<1:=k
  exact ⟨by rw [decide_eq_false (fun h:okMsg n m=>by have:=h.dst;omega)];rfl,rfl⟩
 ·rename_i k
  replace k:m.dst>n:=k
  exact ⟨by rw [decide_eq_false (fun h:okMsg n m=>by have:=h.dst;omega)];rfl,rfl⟩
 ·rename_i k
  replace k:m.src=m.dst:=k
  exact ⟨by rw [decide_eq_false (fun h:okMsg n m=>h.ne k)];rfl,rfl⟩
 all_goals first
  | (exfalso;omega)
  | skip
 have he:okEnds n m:=⟨hb,⟨(show 1≤m.src by have:¬m.src<1:=(by assumption);omega),(show m.src≤n by have:¬m.src>n:=(by assumption);omega)⟩,⟨(show 1≤m.dst by have:¬m.dst<1:=(by assumption);omega),(show m.dst≤n by have:¬m.dst>n:=(by assumption);omega)⟩,by assumption⟩
 refine (h46).mono ?_
 rintro _ _ ⟨rfl,rfl⟩
 by_cases j:1≤m.digest∧m.digest≤65536
 ·rw [decide_eq_true j]
  have hok:okKind n m:=⟨by omega,fun h=>j,fun h=>absurd h (by omega),fun h=>absurd h (by omega),fun h=>absurd h (by omega),fun h=>absurd h (by omega)⟩
  conv=>whnf
  refine rdw ?_;repeat' ((with_reducible apply tw)<;>intro _)
  refine (acalls_nw (avs':=[(xMsg m true false false false).av,m.av]) heq (.cons ?_ (.cons (.refl _) .nil))).mono ?_
  ·refine .agg ?_
   repeat (first|exact .nil|refine .cons (.refl _) ?_|refine .cons (.nils _ (by decide)) ?_)
  rintro _ _ ⟨rfl,rfl⟩
  conv=>whnf
  rw [msg_dec he hok]
  exact ⟨rfl,rfl⟩
 ·rw [decide_eq_false j]
  conv=>whnf
  refine rdw ?_;repeat' ((with_reducible apply tw)<;>intro _)
  exact ⟨by rw [decide_eq_false (fun h:okMsg n m=>j (h.ok.dig (by omega)))];rfl,rfl⟩
open Classical in
theorem pageX6 {n:Int} {m:Msg} (hf:m.fine) (hk:m.kind=6):ACalls Tryz.prog 109 [m.av,.d (.int .i64 n)] [] (fun av L=>av = .d (.bool (decide (okMsg n m)))∧L=[]):=by
 have h32:=rMay_ok n
 have h33:=rCert_ok m.cert hf.cert n
 have heq:=eqMsgX_ok (xMsg m false false true false) m (xMsg_fine hf ..) rfl
 rw [show eqM (xMsg m false false true false) m=onlyKind m from propext (by rw [← only_iff (m:=m) (by omega),hk];exact Iff.rfl)] at heq
 refine acalls_go ttOk zOk foOk Tryz.func109 rfl Tryz.ntmps109 rfl false rfl ?_
 refine msg_cut n m _ _ ?_
 conv=>whnf
 refine rdw ?_;repeat' ((with_reducible apply tw)<;>intro _)
 obtain ⟨b,hb⟩:∃ b,isN n=b:=⟨_,rfl⟩
 rw [hb] at h32
 refine h32.mono ?_
 rintro _ _ ⟨rfl,rfl⟩
 cases b
 ·conv=>whnf
  refine rdw ?_;repeat' ((with_reducible apply tw)<;>intro _)
  exact ⟨by rw [decide_eq_false (fun h:okMsg n m=>by have:=h.isn;rw [hb] at this;cases this)];rfl,rfl⟩
 conv=>whnf
 refine rdw ?_;repeat' ((with_reducible apply tw)<;>intro _)
 ·rename_i k
  replace k:m.src<1:=k
  exact ⟨by rw [decide_eq_false (fun h:okMsg n m=>by have:=h.src;omega)];rfl,rfl⟩
 ·rename_i k0 k
  replace k:m.src>n:=k
  exact ⟨by rw [decide_eq_false (fun h:okMsg n m=>by have:=h.src;omega)];rfl,rfl⟩
 ·rename_i k
  replace k:m.dst<1:=k
  exact ⟨by rw [decide_eq_false (fun h:okMsg n m=>by have:=h.dst;omega)];rfl,rfl⟩
 ·rename_i k
  replace k:m.dst>n:=k
  exact ⟨by rw [decide_eq_false (fun h:okMsg n m=>by have:=h.dst;omega)];rfl,rfl⟩
 ·rename_i k
  replace k:m.src=m.dst:=k
  exact ⟨by rw [decide_eq_false (fun h:okMsg n m=>h.ne k)];rfl,rfl⟩
 all_goals first
  | (exfalso;omega)
  | skip
 have he:okEnds n m:=⟨hb,⟨(show 1≤m.src by have:¬m.src<1:=(by assumption);omega),(show m.src≤n by have:¬m.src>n:=(by assumption);omega)⟩,⟨(show 1≤m.dst by have:¬m.dst<1:=(by assumption);omega),(show m.dst≤n by have:¬m.dst>n:=(by assumption);omega)⟩,by assumption⟩
 refine (h33).mono ?_
 rintro _ _ ⟨rfl,rfl⟩
 by_cases j:okCert n m.cert
 ·rw [decide_eq_true j]
  have hok:okKind n m:=⟨by omega,fun h=>absurd h (by omega),fun h=>absurd h (by omega),fun h=>absurd h (by omega),fun h=>j,fun h=>absurd h (by omega)⟩
  conv=>whnf
  refine rdw ?_;repeat' ((with_reducible apply tw)<;>intro _)
  refine (acalls_nw (avs':=[(xMsg m false false true false).av,m.av]) heq (.cons ?_ (.cons (.refl _) .nil))).mono ?_
  ·refine .agg ?_
   repeat (first|exact .nil|refine .cons (.refl _) ?_|refine .cons (.nils _ (by decide)) ?_)
  rintro _ _ ⟨rfl,rfl⟩
  conv=>whnf
  rw [msg_dec he hok]
  exact ⟨rfl,rfl⟩
 ·rw [decide_eq_false j]
  conv=>whnf
  refine rdw ?_;repeat' ((with_reducible apply tw)<;>intro _)
  exact ⟨by rw [decide_eq_false (fun h:okMsg n m=>j (h.ok.cert hk))];rfl,rfl⟩
theorem pass_allN (d:Dag) (l:List Cert):∀ j,j≤l.length→(passD d (l.take j)).2.length=j→(passD d (l.take j)).2=l.take j
 | 0,_,_=>rfl
 | j+1,hj,h=>by
   obtain ⟨c,hc⟩:∃ c,l[j]? = some c:=⟨_,List.getElem?_eq_getElem (by omega)⟩
   have hl:=pass_len d l j
   have ih:=pass_allN d l j (by omega)
   rw [passD_snoc hc,stepD] at h ⊢
   simp only at h ⊢
   split at h
   ·rename_i h7
    rw [if_pos h7]
    rw [List.length_append,List.length_singleton] at h
    rw [ih (by omega),List.take_add_one,hc]
    rfl
   ·omega
def laSt (p:Prim) (out:List Msg) (s:Bool×Dag×List Cert):AF×List AB:=([(0,.ptr 0 0),(2,.d (.bool s.1))],(p.withDL s.2).st out)
def laI (p:Prim) (out:List Msg) (d:Dag) (l:List Cert) (s:Bool×Nat):AF×List AB:=([(0,.ptr 0 0),(2,.d (.bool s.1)),(3,.arr 2),(4,.d (.int .i64 s.2))],(p.withDL ((passD d (l.take s.2)).1,l)).st out++[.row 47 6 (certsD (passD d (l.take s.2)).2) false])
set_option maxHeartbeats 4000000 in
theorem late20_ok (p:Prim) (out:List Msg) (hf:Fine p.dag p.late):ACalls Tryz.prog 101 [.ptr 0 0] (p.st out) (fun av L=>av = .tup []∧L=(p.withDL (againD p.dag p.late)).st out):=by
 (refine acalls_go ttOk zOk foOk Tryz.func101 rfl Tryz.ntmps101 rfl false rfl ?_);(conv=>whnf)
 refine rdw ?_;repeat' ((with_reducible apply tw)<;>intro _)
 refine loop_goI ttOk zOk foOk (σ:=Bool×Dag×List Cert) (laSt p out) (fun s=>Fine s.2.1 s.2.2∧(s.1=true→againD s.2.1 s.2.2=againD p.dag p.late)∧(s.1=false→s.2=againD p.dag p.late)) (fun s=>if s.1 then s.2.2.length+1 else 0) ?_ ?_
 ·refine into_of [0,2] ?_
  conv=>whnf
  exact ⟨(true,p.dag,p.late),rfl,rfl,hf,fun _=>rfl,fun h=>by cases h⟩
 ·rintro ⟨b,d,l⟩ ⟨hfd,hag,hend⟩
  replace hfd:Fine d l:=hfd
  cases b with
  | false =>
    replace hend:(d,l)=againD p.dag p.late:=hend rfl
    conv=>whnf
    refine rdw ?_;repeat' ((with_reducible apply tw)<;>intro _)
    rw [← hend]
    exact ⟨rfl,rfl⟩
  | true =>
    replace hag:againD d l=againD p.dag p.late:=hag rfl
    have hcl:=certsD_length l
    have hr:=hfd.room
    conv=>whnf
    refine rdw ?_;repeat' ((with_reducible apply tw)<;>intro _)
    refine loop_go2 ttOk zOk foOk (σ:=Bool) (ρ:=Nat) (fun b j=>laI p out d l (b,j)) (fun b j=>j≤l.length∧b=decide ((passD d (l.take j)).2.length<j)) (fun _ j=>l.length - j) [0,2,3,4] ?_ ?_
    ·conv=>whnf
     exact ⟨false,0,rfl,rfl,Nat.zero_le _,rfl⟩
    ·rintro b j ⟨hj,hb⟩
     obtain ⟨k1,k2,k3,k4,k5⟩:=pass_fine hfd j hj
     have hpl:=pass_len d l j
     have hl2:=certsD_length (passD d (l.take j)).2
     conv=>whnf
     refine rdw ?_;repeat' ((with_reducible apply tw)<;>intro _)
     ·rename_i hjl
      replace hjl:(j:Int)<((certsD l).length:Int):=hjl
      refine Exists.elim (⟨_,List.getElem?_eq_getElem (by omega)⟩:∃ c,l[j]? = some c) fun c hc => ?_
      obtain ⟨hok,hct⟩:=hfd.late c (List.mem_of_getElem? hc)
      have hsn:=passD_snoc (d:=d) hc
      have hadd:=rAdd_ok (passD d (l.take j)).1 k1 c hct (certFew_of hfd.valid.nodes hok) (by rw [k2];exact hok)
      ((with_reducible refine draw_pl ttOk zOk foOk mixedOk pl101x7 ?_ ?_);(focus kernel_rfl);(conv=>whnf))
      repeat' (first|(first|((with_reducible first|apply rd_intro|apply gd_and);(focus ((conv=>whnf)<;>first|rfl|(intro K hK;(conv=>whnf);first|exact hK|exact z_wrap (by omega) hK)));conv=>whnf)|((with_reducible apply z_wrap);(focus omega);conv=>whnf)|((with_reducible first|apply mt_dec|apply mt_eq|apply mt_ne|apply mt_not|apply mt_any)<;>(intro _;conv=>whnf)))|((with_reducible apply rd_intro);(focus (intro K hK;(conv=>whnf);exact ⟨by omega,c.cs,certsD_at hc,hK⟩));(conv=>whnf))|((with_reducible apply rd_intro);(focus (intro K hK;(conv=>whnf);exact ix_map hc (by first|rfl|omega) hK));(conv=>whnf))|((with_reducible apply rd_intro);(focus (intro K hK;(conv=>whnf);refine (hadd).mono ?_;rintro _ _ ⟨rfl,rfl⟩;(conv=>whnf);exact hK));(conv=>whnf))|((with_reducible apply gd_and);(focus ((conv=>whnf);intro K hK;(conv=>whnf);exact ⟨by omega,c.cs,certsD_at hc,hK⟩));(conv=>whnf))|((with_reducible apply gd_and);(focus ((conv=>whnf);intro K hK;(conv=>whnf);refine (hadd).mono ?_;rintro _ _ ⟨rfl,rfl⟩;(conv=>whnf);exact hK));(conv=>whnf))|fail)
      ·rename_i h7
       replace h7:putE (passD d (l.take j)).1 c=7:=h7
       have hd7:putD (passD d (l.take j)).1 c=(passD d (l.take j)).1:=by unfold putD;rw [if_neg (by omega)]
       rw [stepD,if_pos h7,hd7] at hsn
       refine ⟨by omega,c.cs,certsD_at hc,?_⟩
       conv=>whnf
       refine rdw ?_;repeat' ((with_reducible apply tw)<;>intro _)
       refine ⟨by simp;omega,?_⟩
       conv=>whnf
       refine rdw ?_;repeat' ((with_reducible apply tw)<;>intro _)
       refine ⟨b,j+1,rfl,?_,⟨by omega,?_⟩,by omega⟩
       ·simp only [laI]
        rw [hsn]
        simp only
        rw [show certsD ((passD d (l.take j)).2++[c])=certsD (passD d (l.take j)).2++[c.cs] by simp [certsD]]
        rfl
       ·rw [hb,hsn]
        simp only [List.length_append,List.length_singleton]
        rw [decide_eq_decide]
        omega
      ·rename_i h7
       replace h7:¬putE (passD d (l.take j)).1 c=7:=h7
       rw [stepD,if_neg h7] at hsn
       refine ⟨true,j+1,rfl,?_,⟨by omega,?_⟩,by omega⟩
       ·simp only [laI]
        rw [hsn]
        rfl
       ·rw [hsn]
        simp only
        rw [decide_eq_true (by omega)]
     ·rename_i hjl
      replace hjl:¬(j:Int)<((certsD l).length:Int):=hjl
      obtain rfl:j=l.length:=by omega
      rw [List.take_length] at k1 k2 k3 k4 k5 hpl hl2 hb
      refine into_seal [(0,15)] rfl ?_
      refine into_of [0,2] ?_
      conv=>whnf
      by_cases hlt:(passD d l).2.length<l.length
      ·rw [decide_eq_true hlt] at hb
       subst hb
       refine ⟨(true,(passD d l).1,(passD d l).2),rfl,by rw [List.take_length];rfl,⟨⟨k1,by show (passD d l).1.certs.length+(passD d l).2.length≤_;omega,fun c hc=>by rw [k2];exact hfd.late c (k5 c hc)⟩,fun _ => ?_,fun h=>by cases h⟩,by show (passD d l).2.length+1<l.length+1;omega⟩
       show againD (passD d l).1 (passD d l).2=_
       have e1:againD d l=againF l.length (passD d l).1 (passD d l).2:=by
        rw [againD,againF,if_pos hlt]
       rw [← hag,e1,againD]
       exact againF_fuel _ _ _ _ (by omega) (by omega)
      ·rw [decide_eq_false hlt] at hb
       subst hb
       have hall:=pass_allN d l l.length (Nat.le_refl _) (by rw [List.take_length];omega)
       rw [List.take_length] at hall
       have e1:againD d l=((passD d l).1,l):=by rw [againD,againF,if_neg hlt]
       refine ⟨(false,(passD d l).1,l),rfl,by rw [List.take_length,hall];rfl,⟨⟨k1,by show (passD d l).1.certs.length+l.length≤_;omega,fun c hc=>by rw [k2];exact hfd.late c hc⟩,⟨fun h=>(by cases h),fun _=>(by rw [← hag,e1])⟩⟩,by show 0<l.length+1;omega⟩
theorem isLate20_ok (p:Prim) (out:List Msg) (hl:few p.late) (d:Int):ACalls Tryz.prog 162 [.ptr 0 0,.d (.int .i64 d)] (p.st out) (fun av L=>av = .d (.bool (isLate p.late d))∧L=p.st out):=by
 have hcl:=certsD_length p.late
 unfold few at hl
 (refine acalls_go ttOk zOk foOk Tryz.func162 rfl Tryz.ntmps162 rfl false rfl ?_);(conv=>whnf)
 refine rdw ?_;repeat' ((with_reducible apply tw)<;>intro _)
 refine loop_go ttOk zOk foOk (σ:=Nat) (fun k=>([(0,.ptr 0 0),(1,.d (.int .i64 d)),(5,.d (.int .i64 k))],p.st out)) (fun k=>k≤p.late.length∧isLate (p.late.take k) d=false) (fun k=>p.late.length - k) [0,1,5] ?_ ?_
 ·conv=>whnf
  exact ⟨0,rfl,rfl,Nat.zero_le _,rfl⟩
 ·rintro k ⟨hk,hno⟩
  conv=>whnf
  refine rdw ?_;repeat' ((with_reducible apply tw)<;>intro _)
  ·rename_i k1
   replace k1:(k:Int)<((certsD p.late).length:Int):=k1
   refine Exists.elim (⟨_,List.getElem?_eq_getElem (by omega)⟩:∃ c,p.late[k]? = some c) fun c hc => ?_
   refine ⟨by omega,c.cs,certsD_at hc,?_⟩
   conv=>whnf
   refine rdw ?_;repeat' ((with_reducible apply tw)<;>intro _)
   ·rename_i k2
    replace k2:c.digest=d:=k2
    refine ⟨?_,rfl⟩
    rw [show isLate p.late d=true from by
     rw [isLate,List.any_eq_true]
     exact ⟨c,List.mem_of_getElem? hc,by simpa using k2⟩]
    rfl
   ·rename_i k2
    replace k2:c.digest≠d:=k2
    refine ⟨k+1,rfl,rfl,⟨by omega,?_⟩,by omega⟩
    unfold isLate at hno ⊢
    rw [List.take_add_one,hc,List.any_append,hno]
    simpa using k2
  ·rename_i k1
   replace k1:¬(k:Int)<((certsD p.late).length:Int):=k1
   rw [List.take_of_length_le (by omega)] at hno
   rw [hno]
   exact ⟨rfl,rfl⟩
theorem freshI_snoc (late:List Cert) {l:List Int} {j:Nat} {x:Int} (hx:l[j]? = some x):freshI late (l.take (j+1))=freshI late (l.take j)++(if isLate late x then [] else [x]):=by
 unfold freshI
 rw [List.take_add_one,hx,List.filter_append]
 cases hb:isLate late x<;>simp [List.filter_cons,hb]
set_option maxHeartbeats 4000000 in
theorem lacks20_ok (p:Prim) (out:List Msg) (hv:Valid p.dag) (hl:few p.late) (c:Cert) (hc:c.pars.length≤1000000) (hr:1≤c.round∧c.round≤1099511627776):ACalls Tryz.prog 161 [.ptr 0 0,c.hav] (p.st out) (fun av L=>av = .d (.sl 1 (nums (freshI p.late (lackI p.dag c))))∧L=p.st out):=by
 have hdl:=hv.len
 have hlk:=rLacks_ok p.dag (by unfold few;omega) c (by omega) hr
 rw [lacks_lack hv] at hlk
 obtain ⟨l,hll⟩:∃ l,lackI p.dag c=l:=⟨_,rfl⟩
 rw [hll] at hlk ⊢
 have hlen:l.length≤1000000:=by
  rw [← hll]
  unfold lackI
  split
  ·exact Nat.zero_le _
  ·exact Nat.le_trans (List.length_filter_le ..) hc
 have hnl:=nums_length l
 have hla:=fun x=>isLate20_ok p out hl x
 (refine acalls_go ttOk zOk foOk Tryz.func161 rfl Tryz.ntmps161 rfl false rfl ?_);(conv=>whnf)
 refine rdw ?_;repeat' ((with_reducible apply tw)<;>intro _)
 ((with_reducible refine draw_pl ttOk zOk foOk mixedOk pl161x2 ?_ ?_);(focus kernel_rfl);(conv=>whnf))
 repeat' (first|(first|((with_reducible first|apply rd_intro|apply gd_and);(focus ((conv=>whnf)<;>first|rfl|(intro K hK;(conv=>whnf);first|exact hK|exact z_wrap (by omega) hK)));conv=>whnf)|((with_reducible apply z_wrap);(focus omega);conv=>whnf)|((with_reducible first|apply mt_dec|apply mt_eq|apply mt_ne|apply mt_not|apply mt_any)<;>(intro _;conv=>whnf)))|((with_reducible apply rd_intro);(focus (intro K hK;(conv=>whnf);refine (hlk).mono ?_;rintro _ _ ⟨rfl,rfl⟩;(conv=>whnf);exact hK));(conv=>whnf))|((with_reducible apply gd_and);(focus ((conv=>whnf);intro K hK;(conv=>whnf);refine (hlk).mono ?_;rintro _ _ ⟨rfl,rfl⟩;(conv=>whnf);exact hK));(conv=>whnf))|(refine (hlk).mono ?_;rintro _ _ ⟨rfl,rfl⟩;(conv=>whnf))|fail)
 refine loop_go ttOk zOk foOk (σ:=Nat) (fun j=>([(0,.ptr 0 0),(5,.arr 2),(6,.d (.sl 1 (nums l))),(7,.d (.int .i64 j))],p.st out++[.row 3 1 (nums (freshI p.late (l.take j))) false])) (fun j=>j≤l.length) (fun j=>l.length - j) [0,5,6,7] ?_ ?_
 ·conv=>whnf
  exact ⟨0,rfl,rfl,Nat.zero_le _⟩
 ·intro j hj
  have hfn:(nums (freshI p.late (l.take j))).length≤l.length:=by rw [nums_length];exact Nat.le_trans (List.length_filter_le ..) (List.length_take_le' ..)
  conv=>whnf
  refine rdw ?_;repeat' ((with_reducible apply tw)<;>intro _)
  ·rename_i hjl
   replace hjl:(j:Int)<((nums l).length:Int):=hjl
   refine Exists.elim (⟨_,List.getElem?_eq_getElem (by omega)⟩:∃ x,l[j]? = some x) fun x hx => ?_
   have hsn:=freshI_snoc p.late hx
   refine ⟨by omega,[.int .i64 x],nums_at hx,?_⟩
   conv=>whnf
   refine (hla x).mono ?_
   rintro _ _ ⟨rfl,rfl⟩
   obtain ⟨b,hb⟩:∃ b,isLate p.late x=b:=⟨_,rfl⟩
   rw [hb] at hsn ⊢
   cases b with
   | true =>
     conv=>whnf
     refine rdw ?_;repeat' ((with_reducible apply tw)<;>intro _)
     refine ⟨j+1,rfl,?_,by omega,by omega⟩
     rw [hsn]
     simp
     rfl
   | false =>
     conv=>whnf
     refine rdw ?_;repeat' ((with_reducible apply tw)<;>intro _)
     refine ⟨by omega,[.int .i64 x],nums_at hx,?_⟩
     conv=>whnf
     refine rdw ?_;repeat' ((with_reducible apply tw)<;>intro _)
     refine ⟨by simp;omega,?_⟩
     conv=>whnf
     refine rdw ?_;repeat' ((with_reducible apply tw)<;>intro _)
     refine ⟨j+1,rfl,?_,by omega,by omega⟩
     rw [hsn,if_neg (by decide),← nums_apps]
     rfl
  ·rename_i hjl
   replace hjl:¬(j:Int)<((nums l).length:Int):=hjl
   have:l.take j=l:=List.take_of_length_le (by omega)
   rw [this]
   exact ⟨rfl,rfl⟩
theorem chn_lt {n k:Nat}:k<chn n↔16 * k<n:=by unfold chn;omega
def waSt (p:Prim) (out:List Msg) (kind to:Int) (l:List Int) (j:Bool) (k:Nat):AF×List AB:=([(0,.ptr 0 0),(1,.d (.int .i64 kind)),(2,.d (.int .i64 to)),(3,.d (.sl 1 (nums (l.drop (16 * k)))))],p.sj j (out++((chunksI l).take k).map (wantM p to kind)))
set_option maxHeartbeats 4000000 in
theorem wants20_ok (p:Prim) (out:List Msg) (ho:out.length≤1000000) (kind to:Int) (l:List Int) (hl:l.length≤1000000):ACalls Tryz.prog 160 [.ptr 0 0,.d (.int .i64 kind),.d (.int .i64 to),.d (.sl 1 (nums l))] (p.st out) (fun av L=>av = .tup []∧∃ j,L=p.sj j (if to=p.id then out else out++wantO p to kind l)):=by
 have hcl:=chunksI_length l
 (refine acalls_go ttOk zOk foOk Tryz.func160 rfl Tryz.ntmps160 rfl false rfl ?_);(conv=>whnf)
 refine rdz ?_;repeat' ((with_reducible apply tw)<;>intro _)
 ·rename_i k0
  replace k0:to=p.id:=k0
  rw [if_pos k0]
  exact ⟨rfl,false,rfl⟩
 ·rename_i k0
  replace k0:to≠p.id:=k0
  rw [if_neg k0]
  refine loop_go2 ttOk zOk foOk (σ:=Bool) (ρ:=Nat) (waSt p out kind to l) (fun _ k=>k≤chn l.length) (fun _ k=>chn l.length - k) [0,1,2,3] ?_ ?_
  ·conv=>whnf
   exact ⟨false,0,rfl,by unfold waSt;rw [List.take_zero,List.map_nil,List.append_nil];rfl,Nat.zero_le _⟩
  ·intro j k hk
   have hnl:=nums_length (l.drop (16 * k))
   have hol:(out++((chunksI l).take k).map (wantM p to kind)).length≤100000000:=by
    rw [List.length_append,List.length_map,List.length_take,hcl]
    unfold chn at *
    omega
   cases j
   all_goals
    conv=>whnf
    refine rdz ?_;repeat' ((with_reducible apply tw)<;>intro _)
    ·rename_i k1
     replace k1:((nums (l.drop (16 * k))).length:Int)>0:=k1
     rw [List.length_drop] at hnl
     have hkc:k<chn l.length:=chn_lt.2 (by omega)
     have hx:(chunksI l)[k]? = some (partI l k):=by
      unfold chunksI
      rw [List.getElem?_map,List.getElem?_range hkc]
      rfl
     have hmn:(nums (l.drop (16 * k))).take (min ((nums (l.drop (16 * k))).length:Int) 16).toNat=nums (partI l k):=by
      rw [nums_take',partI]
      congr 1
      by_cases h16:(l.drop (16 * k)).length≤16
      ·rw [List.take_of_length_le h16,List.take_of_length_le (by rw [List.length_drop] at *;omega)]
      ·rw [show (min ((nums (l.drop (16 * k))).length:Int) 16).toNat=16 by rw [List.length_drop] at h16;omega]
     have hdr:(nums (l.drop (16 * k))).drop (min ((nums (l.drop (16 * k))).length:Int) 16).toNat=nums (l.drop (16 * (k+1))):=by
      rw [nums_drop',List.drop_drop]
      congr 1
      by_cases h16:(l.drop (16 * k)).length≤16
      ·rw [List.length_drop] at h16
       rw [List.drop_of_length_le (by omega),List.drop_of_length_le (by omega)]
      ·rw [List.length_drop] at h16
       rw [show (min ((nums (l.drop (16 * k))).length:Int) 16).toNat=16 by omega,show 16 * k+16=16 * (k+1) by omega]
     have hpl:(partI l k).length≤16:=List.length_take_le ..
     have hcn:=copyNumbers_ok (partI l k) (by unfold tiny;omega)
     have hte:=tells20_ok p (out++((chunksI l).take k).map (wantM p to kind)) (by omega) (⟨kind,0,to,0,0,0,[],cz0,cz0,partI l k⟩:Msg)
     refine ⟨by decide,by omega,by omega,?_⟩
     conv=>whnf
     refine rdz ?_;repeat' ((with_reducible apply tw)<;>intro _)
     rw [show (nums (l.drop (16 * k))).take (min ((nums (l.drop (16 * k))).length:Int) 16).toNat=nums (partI l k) from hmn]
     refine hcn.mono ?_
     rintro _ _ ⟨rfl,rfl⟩
     conv=>whnf
     refine rdz ?_;repeat' ((with_reducible apply tw)<;>intro _)
     refine (acalls_nw hte (.cons (.refl _) (.cons (.agg ?_) .nil))).mono ?_
     ·repeat (first|exact .nil|refine .cons (.refl _) ?_|refine .cons (.nils _ (by decide)) ?_)
     ·rintro _ _ ⟨rfl,rfl⟩
      conv=>whnf
      refine rdz ?_;repeat' ((with_reducible apply tw)<;>intro _)
      refine ⟨by omega,by omega,by omega,?_⟩
      conv=>whnf
      refine rdz ?_;repeat' ((with_reducible apply tw)<;>intro _)
      have htk:(nums (l.drop (16 * k))).take ((nums (l.drop (16 * k))).length:Int).toNat=nums (l.drop (16 * k)):=List.take_of_length_le (by omega)
      have hout:out++((chunksI l).take (k+1)).map (wantM p to kind)=out++((chunksI l).take k).map (wantM p to kind)++[(⟨kind,0,to,0,0,0,[],cz0,cz0,partI l k⟩:Msg).from p]:=by
       rw [List.take_add_one,hx]
       simp [wantM,Msg.from]
      refine ⟨true,k+1,?_,?_,(show k+1≤chn l.length by omega),(show chn l.length - (k+1)<chn l.length - k by omega)⟩
      ·unfold waSt
       rw [htk,hdr]
      ·unfold waSt
       rw [hout]
       rfl
    ·rename_i k1
     replace k1:¬((nums (l.drop (16 * k))).length:Int)>0:=k1
     rw [List.length_drop] at hnl
     have:¬k<chn l.length:=fun h=>by have:=chn_lt.1 h;omega
     rw [List.take_of_length_le (by omega)]
     first
      | exact ⟨rfl,false,rfl⟩
      | exact ⟨rfl,true,rfl⟩
def cmO (p:Prim) (c:Cert) (src:Int):List Msg:=if putE p.dag c=7∧src≠p.id then wantO p src 8 (freshI (lateP p.late c) (lackI p.dag c)) else []
def coSt (p:Prim) (out:List Msg) (c:Cert) (src:Int) (i:Nat):AF×List AB:=([(0,.ptr 0 0),(2,.d (.int .i64 src)),(4,.ptr 2 0),(8,.d (.int .i64 i))],p.st out++[.cells (c.cs.map AV.d)])
set_option maxHeartbeats 8000000 in
theorem comes20_ok (p:Prim) (out:List Msg) (ho:out.length≤1000000) (c:Cert) (hok:okCert p.dag.nodes c) (hct:c.tiny) (hf:Fine p.dag p.late) (hroom:p.dag.certs.length+p.late.length<60000) (hlt:∀ x∈p.late,x.tiny) (hs:risingC p.late) (src:Int) :
  ACalls Tryz.prog 111 [.ptr 0 0,c.av,.d (.int .i64 src)] (p.st out) (fun av L=>av = .tup []∧∃ j,L=(inP p c).sj j (out++cmO p c src)):=by
 have hcl:=certsD_length p.late
 have hr:=hf.room
 have hfew:few p.late:=by unfold few;omega
 have hadd:=rAdd_ok p.dag hf.valid c hct (certFew_of hf.valid.nodes hok) hok
 have hpl:=hok.head.pars.1
 have hrd:=hok.head.round
 have hnn:=of_decide_eq_true hf.valid.nodes
 have hlk:(lackI p.dag c).length≤1000000:=by
  unfold lackI
  split
  ·exact Nat.zero_le _
  ·exact Nat.le_trans (List.length_filter_le ..) (by omega)
 have hfr:∀ l,(freshI l (lackI p.dag c)).length≤1000000:=fun l=>Nat.le_trans (List.length_filter_le ..) hlk
 refine acalls_seals2 ?_
 (refine acalls_go ttOk zOk foOk Tryz.func111 rfl Tryz.ntmps111 rfl true rfl ?_);(conv=>whnf)
 refine rdw ?_;repeat' ((with_reducible apply tw)<;>intro _)
 ((with_reducible refine draw_pl ttOk zOk foOk mixedOk pl111x1 ?_ ?_);(focus kernel_rfl);(conv=>whnf))
 repeat' (first|(first|((with_reducible first|apply rd_intro|apply gd_and);(focus ((conv=>whnf)<;>first|rfl|(intro K hK;(conv=>whnf);first|exact hK|exact z_wrap (by omega) hK)));conv=>whnf)|((with_reducible apply z_wrap);(focus omega);conv=>whnf)|((with_reducible first|apply mt_dec|apply mt_eq|apply mt_ne|apply mt_not|apply mt_any)<;>(intro _;conv=>whnf)))|((with_reducible apply rd_intro);(focus (intro K hK;(conv=>whnf);refine (hadd).mono ?_;rintro _ _ ⟨rfl,rfl⟩;(conv=>whnf);exact hK));(conv=>whnf))|((with_reducible apply gd_and);(focus ((conv=>whnf);intro K hK;(conv=>whnf);refine (hadd).mono ?_;rintro _ _ ⟨rfl,rfl⟩;(conv=>whnf);exact hK));(conv=>whnf))|(refine (hadd).mono ?_;rintro _ _ ⟨rfl,rfl⟩;(conv=>whnf))|fail)
 ·rename_i h0
  replace h0:putE p.dag c=0:=h0
  have hfp:Fine (putD p.dag c) p.late:=⟨putD_valid hf.valid hok (by omega),by have:=putD_len p.dag c;omega,fun x hx=>by rw [putD_nodes];exact hf.late x hx⟩
  have hag:=late20_ok (p.withDL (putD p.dag c,p.late)) out hfp
  refine hag.mono ?_
  rintro _ _ ⟨rfl,rfl⟩
  conv=>whnf
  refine rdw ?_;repeat' ((with_reducible apply tw)<;>intro _)
  refine ⟨2,[],_,_,_,Nat.le_refl _,rfl,rfl,rfl,rfl,false,?_⟩
  rw [inP,if_pos h0,cmO,if_neg (fun h=>by have:=h.1;omega),List.append_nil]
  rfl
 ·rename_i h0 h7
  replace h0:putE p.dag c≠0:=h0
  replace h7:putE p.dag c=7:=h7
  refine (isLate20_ok p out hfew c.digest).mono ?_
  rintro _ _ ⟨rfl,rfl⟩
  obtain ⟨b,hb⟩:∃ b,isLate p.late c.digest=b:=⟨_,rfl⟩
  rw [hb]
  have hout0:out++cmO p c src=if src=p.id then out else out++wantO p src 8 (freshI (lateP p.late c) (lackI p.dag c)):=by
   unfold cmO
   by_cases hsi:src=p.id
   ·rw [if_pos hsi,if_neg (fun h=>h.2 hsi),List.append_nil]
   ·rw [if_neg hsi,if_pos ⟨h7,hsi⟩]
  have hlak:=lacks20_ok p out hf.valid hfew c (by omega) ⟨by omega,by omega⟩
  have hwan:=wants20_ok p out ho 8 src (freshI p.late (lackI p.dag c)) (hfr _)
  cases b with
  | true =>
    have hlp:lateP p.late c=p.late:=by rw [lateP,if_neg (fun h=>by rw [hb] at h;exact absurd h.1 (by decide))]
    have hout:=hout0
    rw [hlp] at hout
    conv=>whnf
    refine rdw ?_;repeat' ((with_reducible apply tw)<;>intro _)
    (refine (hlak).mono ?_;rintro _ _ ⟨rfl,rfl⟩;(conv=>whnf))
    refine rdw ?_;repeat' ((with_reducible apply tw)<;>intro _)
    refine hwan.mono ?_
    rintro _ _ ⟨rfl,j,rfl⟩
    rw [inP,if_neg h0,if_pos h7,hlp,hout]
    cases j
    ·conv=>whnf
     refine rdw ?_;repeat' ((with_reducible apply tw)<;>intro _)
     refine ⟨2,[],_,_,_,Nat.le_refl _,rfl,rfl,rfl,rfl,false,rfl⟩
    ·conv=>whnf
     refine rdw ?_;repeat' ((with_reducible apply tw)<;>intro _)
     refine ⟨3,[],_,_,_,by show 2≤3;omega,rfl,rfl,rfl,rfl,true,rfl⟩
  | false =>
    conv=>whnf
    refine rdw ?_;repeat' ((with_reducible apply tw)<;>intro _)
    ·rename_i h256
     replace h256:((certsD p.late).length:Int)<256:=h256
     have hi:=lateI_le p.late c.digest
     have hlp:lateP p.late c=p.late.take (lateI p.late c.digest)++c :: p.late.drop (lateI p.late c.digest):=by rw [lateP,if_pos ⟨hb,by omega⟩]
     refine loop_go ttOk zOk foOk (σ:=Nat) (coSt p out c src) (fun i=>i≤lateI p.late c.digest) (fun i=>p.late.length - i) [0,2,4,8] ?_ ?_
     ·conv=>whnf
      exact ⟨0,rfl,rfl,Nat.zero_le _⟩
     ·intro i hii
      conv=>whnf
      ((with_reducible refine draw_pl ttOk zOk foOk mixedOk pl111x9 ?_ ?_);(focus kernel_rfl);(conv=>whnf))
      repeat' (first|(first|((with_reducible first|apply rd_intro|apply gd_and);(focus ((conv=>whnf)<;>first|rfl|(intro K hK;(conv=>whnf);first|exact hK|exact z_wrap (by omega) hK)));conv=>whnf)|((with_reducible apply z_wrap);(focus omega);conv=>whnf)|((with_reducible first|apply mt_dec|apply mt_eq|apply mt_ne|apply mt_not|apply mt_any)<;>(intro _;conv=>whnf)))|fail)
      ·rename_i k1
       replace k1:(i:Int)<((certsD p.late).length:Int):=k1
       refine Exists.elim (⟨_,List.getElem?_eq_getElem (by omega)⟩:∃ x,p.late[i]? = some x) fun x hx => ?_
       have hii2:=lateI_iff (d:=c.digest) hs hx
       repeat' (first|(first|((with_reducible first|apply rd_intro|apply gd_and);(focus ((conv=>whnf)<;>first|rfl|(intro K hK;(conv=>whnf);first|exact hK|exact z_wrap (by omega) hK)));conv=>whnf)|((with_reducible apply z_wrap);(focus omega);conv=>whnf)|((with_reducible first|apply mt_dec|apply mt_eq|apply mt_ne|apply mt_not|apply mt_any)<;>(intro _;conv=>whnf)))|((with_reducible apply rd_intro);(focus (intro K hK;(conv=>whnf);exact ⟨by omega,x.cs,certsD_at hx,hK⟩));(conv=>whnf))|((with_reducible apply rd_intro);(focus (intro K hK;(conv=>whnf);exact ix_map hx (by first|rfl|omega) hK));(conv=>whnf))|fail)
       ·rename_i k2
        replace k2:x.digest<c.digest:=k2
        have:=hii2.1 k2
        exact ⟨i+1,rfl,rfl,(show i+1≤lateI p.late c.digest by omega),(show p.late.length - (i+1)<p.late.length - i by omega)⟩
       ·rename_i k2
        replace k2:¬x.digest<c.digest:=k2
        have hie:i=lateI p.late c.digest:=by
         have:¬i<lateI p.late c.digest:=fun h=>k2 (hii2.2 h)
         omega
        subst hie
        clear hii
        have hris2:risingC (lateP p.late c):=lateP_rising hs c
        have hfew2:few (lateP p.late c):=by unfold few;have:=lateP_len p.late c;omega
        have hlak:=lacks20_ok { p with late:=lateP p.late c } out hf.valid hfew2 c (by omega) ⟨by omega,by omega⟩
        have hwan:=wants20_ok { p with late:=lateP p.late c } out ho 8 src (freshI (lateP p.late c) (lackI p.dag c)) (hfr _)
        have hcp1:=copyCerts_row (p.late.take (lateI p.late c.digest)) (by unfold tiny;simp;omega) (fun c hc=>hlt c (List.mem_of_mem_take hc))
        have hs1:List.drop (Int.toNat 0) (List.take ((lateI p.late c.digest:Int)).toNat (certsD p.late))=certsD (p.late.take (lateI p.late c.digest)):=by
         rw [show (Int.toNat 0)=0 from rfl,List.drop_zero,show ((lateI p.late c.digest:Int)).toNat=lateI p.late c.digest from rfl]
         simp [certsD]
        have hs2:List.drop ((lateI p.late c.digest:Int)).toNat (List.take ((certsD p.late).length:Int).toNat (certsD p.late))=certsD (p.late.drop (lateI p.late c.digest)):=by
         rw [show ((lateI p.late c.digest:Int)).toNat=lateI p.late c.digest from rfl,show ((certsD p.late).length:Int).toNat=(certsD p.late).length from rfl,List.take_length]
         simp [certsD]
        have hl1:=certsD_length (p.late.take (lateI p.late c.digest))
        have hl2:=certsD_length (p.late.drop (lateI p.late c.digest))
        have hl3:(p.late.take (lateI p.late c.digest)).length≤65536:=Nat.le_trans (List.length_take_le' ..) (by omega)
        have hl4:(p.late.drop (lateI p.late c.digest)).length≤65536:=by rw [List.length_drop];omega
        have happ:certsD (p.late.take (lateI p.late c.digest))++[[DV.int .i64 c.author,.int .i64 c.round,.sl 1 (nums c.bats),.sl 1 (nums c.pars),.int .i64 c.digest,.sl 1 (nums c.sigs)]]++certsD (p.late.drop (lateI p.late c.digest))=certsD (lateP p.late c):=by rw [hlp];simp [certsD,Cert.cs]
        ((with_reducible refine draw_pl ttOk zOk foOk mixedOk pl111x11 ?_ ?_);(focus kernel_rfl);(conv=>whnf))
        refine rdw ?_;repeat' ((with_reducible apply tw)<;>intro _)
        ((with_reducible apply rd_intro);(focus (intro K hK;(conv=>whnf);exact ⟨by omega,by omega,by omega,hK⟩));(conv=>whnf))
        refine rdw ?_;repeat' ((with_reducible apply tw)<;>intro _)
        rw [hs1]
        refine hcp1.mono ?_
        rintro _ _ ⟨rfl,rfl⟩
        conv=>whnf
        refine rdw ?_;repeat' ((with_reducible apply tw)<;>intro _)
        refine (copyCert_ok c hct).mono ?_
        rintro _ _ ⟨rfl,rfl⟩
        conv=>whnf
        refine rdw ?_;repeat' ((with_reducible apply tw)<;>intro _)
        refine ⟨by simp;omega,?_⟩
        conv=>whnf
        refine rdw ?_;repeat' ((with_reducible apply tw)<;>intro _)
        refine ⟨by omega,by omega,by omega,?_⟩
        conv=>whnf
        rw [hs2]
        refine ⟨by simp [certsD];omega,?_⟩
        conv=>whnf
        refine acalls_via [(0,15)] rfl ?_
        conv=>whnf
        rw [happ]
        refine hlak.mono ?_
        rintro _ _ ⟨rfl,rfl⟩
        conv=>whnf
        refine rdw ?_;repeat' ((with_reducible apply tw)<;>intro _)
        refine hwan.mono ?_
        rintro _ _ ⟨rfl,j,rfl⟩
        rw [inP,if_neg h0,if_pos h7,hout0]
        cases j
        ·conv=>whnf
         refine rdw ?_;repeat' ((with_reducible apply tw)<;>intro _)
         refine ⟨2,[],_,_,_,Nat.le_refl _,rfl,rfl,rfl,rfl,false,rfl⟩
        ·conv=>whnf
         refine rdw ?_;repeat' ((with_reducible apply tw)<;>intro _)
         refine ⟨3,[],_,_,_,by show 2≤3;omega,rfl,rfl,rfl,rfl,true,rfl⟩
      ·rename_i k1
       replace k1:¬(i:Int)<((certsD p.late).length:Int):=k1
       have hie:i=lateI p.late c.digest:=by omega
       subst hie
       clear hii
       have hris2:risingC (lateP p.late c):=lateP_rising hs c
       have hfew2:few (lateP p.late c):=by unfold few;have:=lateP_len p.late c;omega
       have hlak:=lacks20_ok { p with late:=lateP p.late c } out hf.valid hfew2 c (by omega) ⟨by omega,by omega⟩
       have hwan:=wants20_ok { p with late:=lateP p.late c } out ho 8 src (freshI (lateP p.late c) (lackI p.dag c)) (hfr _)
       have hcp1:=copyCerts_row (p.late.take (lateI p.late c.digest)) (by unfold tiny;simp;omega) (fun c hc=>hlt c (List.mem_of_mem_take hc))
       have hs1:List.drop (Int.toNat 0) (List.take ((lateI p.late c.digest:Int)).toNat (certsD p.late))=certsD (p.late.take (lateI p.late c.digest)):=by
        rw [show (Int.toNat 0)=0 from rfl,List.drop_zero,show ((lateI p.late c.digest:Int)).toNat=lateI p.late c.digest from rfl]
        simp [certsD]
       have hs2:List.drop ((lateI p.late c.digest:Int)).toNat (List.take ((certsD p.late).length:Int).toNat (certsD p.late))=certsD (p.late.drop (lateI p.late c.digest)):=by
        rw [show ((lateI p.late c.digest:Int)).toNat=lateI p.late c.digest from rfl,show ((certsD p.late).length:Int).toNat=(certsD p.late).length from rfl,List.take_length]
        simp [certsD]
       have hl1:=certsD_length (p.late.take (lateI p.late c.digest))
       have hl2:=certsD_length (p.late.drop (lateI p.late c.digest))
       have hl3:(p.late.take (lateI p.late c.digest)).length≤65536:=Nat.le_trans (List.length_take_le' ..) (by omega)
       have hl4:(p.late.drop (lateI p.late c.digest)).length≤65536:=by rw [List.length_drop];omega
       have happ:certsD (p.late.take (lateI p.late c.digest))++[[DV.int .i64 c.author,.int .i64 c.round,.sl 1 (nums c.bats),.sl 1 (nums c.pars),.int .i64 c.digest,.sl 1 (nums c.sigs)]]++certsD (p.late.drop (lateI p.late c.digest))=certsD (lateP p.late c):=by rw [hlp];simp [certsD,Cert.cs]
       ((with_reducible refine draw_pl ttOk zOk foOk mixedOk pl111x11 ?_ ?_);(focus kernel_rfl);(conv=>whnf))
       refine rdw ?_;repeat' ((with_reducible apply tw)<;>intro _)
       ((with_reducible apply rd_intro);(focus (intro K hK;(conv=>whnf);exact ⟨by omega,by omega,by omega,hK⟩));(conv=>whnf))
       refine rdw ?_;repeat' ((with_reducible apply tw)<;>intro _)
       rw [hs1]
       refine hcp1.mono ?_
       rintro _ _ ⟨rfl,rfl⟩
       conv=>whnf
       refine rdw ?_;repeat' ((with_reducible apply tw)<;>intro _)
       refine (copyCert_ok c hct).mono ?_
       rintro _ _ ⟨rfl,rfl⟩
       conv=>whnf
       refine rdw ?_;repeat' ((with_reducible apply tw)<;>intro _)
       refine ⟨by simp;omega,?_⟩
       conv=>whnf
       refine rdw ?_;repeat' ((with_reducible apply tw)<;>intro _)
       refine ⟨by omega,by omega,by omega,?_⟩
       conv=>whnf
       rw [hs2]
       refine ⟨by simp [certsD];omega,?_⟩
       conv=>whnf
       refine acalls_via [(0,15)] rfl ?_
       conv=>whnf
       rw [happ]
       refine hlak.mono ?_
       rintro _ _ ⟨rfl,rfl⟩
       conv=>whnf
       refine rdw ?_;repeat' ((with_reducible apply tw)<;>intro _)
       refine hwan.mono ?_
       rintro _ _ ⟨rfl,j,rfl⟩
       rw [inP,if_neg h0,if_pos h7,hout0]
       cases j
       ·conv=>whnf
        refine rdw ?_;repeat' ((with_reducible apply tw)<;>intro _)
        refine ⟨2,[],_,_,_,Nat.le_refl _,rfl,rfl,rfl,rfl,false,rfl⟩
       ·conv=>whnf
        refine rdw ?_;repeat' ((with_reducible apply tw)<;>intro _)
        refine ⟨3,[],_,_,_,by show 2≤3;omega,rfl,rfl,rfl,rfl,true,rfl⟩
    ·rename_i h256
     replace h256:¬((certsD p.late).length:Int)<256:=h256
     have hlp:lateP p.late c=p.late:=by rw [lateP,if_neg (fun h=>by have:=h.2;omega)]
     have hout:=hout0
     rw [hlp] at hout
     (refine (hlak).mono ?_;rintro _ _ ⟨rfl,rfl⟩;(conv=>whnf))
     refine rdw ?_;repeat' ((with_reducible apply tw)<;>intro _)
     refine hwan.mono ?_
     rintro _ _ ⟨rfl,j,rfl⟩
     rw [inP,if_neg h0,if_pos h7,hlp,hout]
     cases j
     ·conv=>whnf
      refine rdw ?_;repeat' ((with_reducible apply tw)<;>intro _)
      refine ⟨2,[],_,_,_,Nat.le_refl _,rfl,rfl,rfl,rfl,false,rfl⟩
     ·conv=>whnf
      refine rdw ?_;repeat' ((with_reducible apply tw)<;>intro _)
      refine ⟨3,[],_,_,_,by show 2≤3;omega,rfl,rfl,rfl,rfl,true,rfl⟩
 ·rename_i h0 h7
  replace h0:putE p.dag c≠0:=h0
  replace h7:putE p.dag c≠7:=h7
  refine ⟨2,[],_,_,_,Nat.le_refl _,rfl,rfl,rfl,rfl,false,?_⟩
  rw [inP,if_neg h0,if_neg h7,cmO,if_neg (fun h=>h7 h.1),List.append_nil]
  rfl
end Go.Proofs.YtolkmjfkkkiboaaGreat
