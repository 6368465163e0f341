/- NodeFormsCard: contracts. -/
import Derived.Test.YtgkhgapkfnkagaaGreatDoorNodeFormsCardCofA
import Derived.Shelf.SlicesE.Clone
import Derived.Lib.AppendZerosOnto
import Derived.Lib.Slices
import Derived.Lib.SliceRun
import Derived.Lib.Walk
set_option linter.unusedVariables false
set_option linter.unusedSimpArgs false
namespace Go.Proofs.YtgkhgapkfnkagaaGreatDoor
open Go.Ab Go.RowKit Go.MapKept
attribute [local irreducible] ACalls AW ADraw fltB fnear
set_option maxRecDepth 100000
def eqM (a b:Msg):Prop:=a.kind=b.kind∧a.src=b.src∧a.dst=b.dst∧a.digest=b.digest∧a.ba=b.ba∧a.bn=b.bn∧b.txs=[]∧(a.head.author=b.head.author∧a.head.round=b.head.round∧a.head.bats=b.head.bats∧a.head.pars=b.head.pars)∧(a.cert.author=b.cert.author∧a.cert.round=b.cert.round∧a.cert.bats=b.cert.bats∧a.cert.pars=b.cert.pars∧a.cert.digest=b.cert.digest∧a.cert.sigs=b.cert.sigs)∧a.digs=b.digs
def fstC:Code→Code | .seq a _=>a|c=>c
def sndC:Code→Code | .seq _ b=>b|c=>c
def bodyC:Option Code→Code|some c=>c|none => .skip
theorem msg_cut (n:Int) (m:Msg) (rest:Code) (Q:Exit→AF→List AB→Prop) (h:acodeR Tryz.prog tt fo 136 0 rest Q [(5,.ptr 1 0),(13,.agg [.d (.int .i64 m.kind),.d (.int .i64 m.src),.d (.int .i64 m.dst),.d (.int .i64 0),.d (.int .i64 0),.d (.int .i64 0),.d .nils,.d (.int .i64 0),.d (.int .i64 0),.d .nils,.d .nils,.d (.int .i64 0),.d (.int .i64 0),.d .nils,.d .nils,.d (.int .i64 0),.d .nils,.d .nils]),(12,.d (.int .i64 m.dst)),(11,.ptr 0 2),(10,.d (.int .i64 m.src)),(9,.ptr 0 1),(8,.d (.int .i64 m.kind)),(7,.ptr 0 0),(4,.d (.bool false)),(2,.ptr 0 0),(0,m.av),(1,.d (.int .i64 n))] [.cells (m.cs.map AV.d),.cells [.d (.int .i64 m.kind),.d (.int .i64 m.src),.d (.int .i64 m.dst),.d (.int .i64 0),.d (.int .i64 0),.d (.int .i64 0),.d .nils,.d (.int .i64 0),.d (.int .i64 0),.d .nils,.d .nils,.d (.int .i64 0),.d (.int .i64 0),.d .nils,.d .nils,.d (.int .i64 0),.d .nils,.d .nils]]) :
  acodeR Tryz.prog tt fo 136 0 (.seq (fstC (bodyC Tryz.f9.body)) (.seq (fstC (sndC (bodyC Tryz.f9.body))) rest)) Q (argF [m.av,.d (.int .i64 n)] 0) []:=by
 conv=>whnf
 exact h
theorem eqTxs_n (l:List Tx):ACalls Tryz.prog 165 [.d (.sl 4 []),.d (.sl 4 (txsD l))] [] (fun av L=>av = .d (.bool (decide (l.length=0)))∧L=[]):=by
 have hl:(txsD l).length=l.length:=List.length_map ..
 cases l with
 | nil=>exact eqTxs_e
 | cons t r =>
   (refine acalls_go ttOk zOk foOk Tryz.func165 rfl Tryz.ntmps165 rfl false rfl ?_);(conv=>whnf)
   refine rdz ?_;repeat' ((with_reducible apply tw)<;>intro _)
   exact ⟨rfl,rfl⟩
theorem eqCert_ok (a b:Cert) (ha:fewL a):ACalls Tryz.prog 96 [a.av,b.av] [] (fun av L=>av = .d (.bool (decide (a.author=b.author∧a.round=b.round∧a.bats=b.bats∧a.pars=b.pars∧a.digest=b.digest∧a.sigs=b.sigs)))∧L=[]):=by
 have h1:=eqHeader_ok a b ⟨ha.bats,ha.pars⟩
 have h2:=eqNumbers_ok a.sigs b.sigs ha.sigs
 (refine acalls_go ttOk zOk foOk Tryz.func96 rfl Tryz.ntmps96 rfl false rfl ?_);(conv=>whnf)
 refine h1.mono ?_
 rintro _ _ ⟨rfl,rfl⟩
 by_cases k1:a.author=b.author∧a.round=b.round∧a.bats=b.bats∧a.pars=b.pars
 ·rw [decide_eq_true k1]
  obtain ⟨j1,j2,j3,j4⟩:=k1
  conv=>whnf
  refine rdz ?_;repeat' ((with_reducible apply tw)<;>intro _)
  ·rename_i k2
   refine h2.mono ?_
   rintro _ _ ⟨rfl,rfl⟩
   conv=>whnf
   refine ⟨?_,rfl⟩
   by_cases k3:a.sigs=b.sigs
   ·rw [decide_eq_true k3,decide_eq_true ⟨j1,j2,j3,j4,k2,k3⟩]
   ·rw [decide_eq_false k3,decide_eq_false (fun h=>k3 h.2.2.2.2.2)]
  ·rename_i k2
   rw [decide_eq_false (fun h=>k2 h.2.2.2.2.1)]
   exact ⟨rfl,rfl⟩
 ·rw [decide_eq_false k1]
  conv=>whnf
  refine rdz ?_;repeat' ((with_reducible apply tw)<;>intro _)
  rw [decide_eq_false (fun h=>k1 ⟨h.1,h.2.1,h.2.2.1,h.2.2.2.1⟩)]
  exact ⟨rfl,rfl⟩
theorem eqBatch_n (a b:Int) (l:List Tx) (x y:Int):ACalls Tryz.prog 94 [.agg [.d (.int .i64 a),.d (.int .i64 b),.d (.sl 4 [])],.agg [.d (.int .i64 x),.d (.int .i64 y),.d (.sl 4 (txsD l))]] [] (fun av L=>av = .d (.bool (decide (a=x∧b=y∧l=[])))∧L=[]):=by
 have h1:=eqTxs_n l
 (refine acalls_go ttOk zOk foOk Tryz.func94 rfl Tryz.ntmps94 rfl false rfl ?_);(conv=>whnf)
 refine rdz ?_;repeat' ((with_reducible apply tw)<;>intro _)
 ·rename_i k1 k2
  replace k1:a=x:=k1
  replace k2:b=y:=k2
  (refine (h1).mono ?_;rintro _ _ ⟨rfl,rfl⟩;(conv=>whnf))
  refine ⟨?_,rfl⟩
  cases l with
  | nil=>rw [decide_eq_true (p:=a=x∧b=y∧([]:List Tx)=[]) ⟨k1,k2,rfl⟩];rfl
  | cons t r=>rw [decide_eq_false (p:=a=x∧b=y∧t :: r=[]) (fun h=>by cases h.2.2)];rfl
 ·rename_i k1 k2
  replace k2:b≠y:=k2
  rw [decide_eq_false (fun h=>k2 h.2.1)]
  exact ⟨rfl,rfl⟩
 ·rename_i k1
  replace k1:a≠x:=k1
  rw [decide_eq_false (fun h=>k1 h.1)]
  exact ⟨rfl,rfl⟩
open Classical in
theorem eqMsgX_ok (a b:Msg) (fa:a.fine) (ha:a.txs=[]):ACalls Tryz.prog 38 [a.av,b.av] [] (fun av L=>av = .d (.bool (decide (eqM a b)))∧L=[]):=by
 have h1:=eqBatch_n a.ba a.bn b.txs b.ba b.bn
 have h2:=eqHeader_ok a.head b.head ⟨fa.head.bats,fa.head.pars⟩
 have h3:=eqCert_ok a.cert b.cert fa.cert
 have h4:=eqNumbers_ok a.digs b.digs fa.digs
 have e0:a.av=(⟨a.kind,a.src,a.dst,a.digest,a.ba,a.bn,[],a.head,a.cert,a.digs⟩:Msg).av:=by rw [← ha]
 rw [e0]
 (refine acalls_go ttOk zOk foOk Tryz.func38 rfl Tryz.ntmps38 rfl false rfl ?_);(conv=>whnf)
 refine rdz ?_;repeat' ((with_reducible apply tw)<;>intro _)
 ·rename_i k1 k2 k3 k4
  refine h1.mono ?_
  rintro _ _ ⟨rfl,rfl⟩
  by_cases j1:a.ba=b.ba∧a.bn=b.bn∧b.txs=[]
  ·rw [@decide_eq_true _ (_) j1]
   conv=>whnf
   refine rdz ?_;repeat' ((with_reducible apply tw)<;>intro _)
   refine h2.mono ?_
   rintro _ _ ⟨rfl,rfl⟩
   by_cases j2:a.head.author=b.head.author∧a.head.round=b.head.round∧a.head.bats=b.head.bats∧a.head.pars=b.head.pars
   ·rw [@decide_eq_true _ (_) j2]
    conv=>whnf
    refine rdz ?_;repeat' ((with_reducible apply tw)<;>intro _)
    refine h3.mono ?_
    rintro _ _ ⟨rfl,rfl⟩
    by_cases j3:a.cert.author=b.cert.author∧a.cert.round=b.cert.round∧a.cert.bats=b.cert.bats∧a.cert.pars=b.cert.pars∧a.cert.digest=b.cert.digest∧a.cert.sigs=b.cert.sigs
    ·rw [@decide_eq_true _ (_) j3]
     conv=>whnf
     refine rdz ?_;repeat' ((with_reducible apply tw)<;>intro _)
     refine h4.mono ?_
     rintro _ _ ⟨rfl,rfl⟩
     conv=>whnf
     refine ⟨?_,rfl⟩
     congr 2
     rw [decide_eq_decide]
     exact ⟨fun h=>⟨k1,k2,k3,k4,j1.1,j1.2.1,j1.2.2,j2,j3,h⟩,fun h=>h.2.2.2.2.2.2.2.2.2⟩
    ·rw [@decide_eq_false _ (_) j3]
     conv=>whnf
     refine rdz ?_;repeat' ((with_reducible apply tw)<;>intro _)
     rw [decide_eq_false (fun h:eqM a b=>j3 h.2.2.2.2.2.2.2.2.1)]
     exact ⟨rfl,rfl⟩
   ·rw [@decide_eq_false _ (_) j2]
    conv=>whnf
    refine rdz ?_;repeat' ((with_reducible apply tw)<;>intro _)
    rw [decide_eq_false (fun h:eqM a b=>j2 h.2.2.2.2.2.2.2.1)]
    exact ⟨rfl,rfl⟩
  ·rw [@decide_eq_false _ (_) j1]
   conv=>whnf
   refine rdz ?_;repeat' ((with_reducible apply tw)<;>intro _)
   rw [decide_eq_false (fun h:eqM a b=>j1 ⟨h.2.2.2.2.1,h.2.2.2.2.2.1,h.2.2.2.2.2.2.1⟩)]
   exact ⟨rfl,rfl⟩
 ·rename_i k1 k2 k3 k4
  rw [decide_eq_false (fun h:eqM a b=>k4 h.2.2.2.1)]
  exact ⟨rfl,rfl⟩
 ·rename_i k1 k2 k3
  rw [decide_eq_false (fun h:eqM a b=>k3 h.2.2.1)]
  exact ⟨rfl,rfl⟩
 ·rename_i k1 k2
  rw [decide_eq_false (fun h:eqM a b=>k2 h.2.1)]
  exact ⟨rfl,rfl⟩
 ·rename_i k1
  rw [decide_eq_false (fun h:eqM a b=>k1 h.1)]
  exact ⟨rfl,rfl⟩
def xMsg (m:Msg) (g h c d:Bool):Msg:=⟨m.kind,m.src,m.dst,if g then m.digest else 0,0,0,[],if h then m.head else cz0,if c then m.cert else cz0,if d then m.digs else []⟩
theorem xMsg_fine {m:Msg} (hf:m.fine) (g h c d:Bool):(xMsg m g h c d).fine:=by
 refine ⟨Nat.zero_le _,?_,?_,?_⟩
 ·unfold xMsg;cases h;exact fit_few z_fit;exact hf.head
 ·unfold xMsg;cases c;exact fit_few z_fit;exact hf.cert
 ·unfold xMsg;cases d;exact Nat.zero_le _;exact hf.digs
structure okEnds (n:Int) (m:Msg):Prop where
 isn:isN n=true
 src:1≤m.src∧m.src≤n
 dst:1≤m.dst∧m.dst≤n
 ne:m.src≠m.dst
theorem only_iff {m:Msg} (hb:m.kind≠1∧m.kind≠3):eqM (xMsg m (decide (m.kind≤5)) (decide (m.kind=4)) (decide (m.kind=6)) (decide (7≤m.kind))) m↔onlyKind m:=by
 unfold eqM xMsg
 constructor
 ·rintro ⟨-,-,-,e4,e5,e6,e7,e8,e9,e10⟩
  refine ⟨fun h => ?_,fun _=>⟨e5.symm,e6.symm,e7⟩,fun h => ?_,fun h => ?_,fun h => ?_⟩
  ·rw [decide_eq_false (show ¬m.kind≤5 by omega)] at e4;exact e4.symm
  ·rw [decide_eq_false h] at e8;exact ⟨e8.1.symm,e8.2.1.symm,e8.2.2.1.symm,e8.2.2.2.symm⟩
  ·rw [decide_eq_false h] at e9;exact ⟨e9.1.symm,e9.2.1.symm,e9.2.2.1.symm,e9.2.2.2.1.symm,e9.2.2.2.2.1.symm,e9.2.2.2.2.2.symm⟩
  ·rw [decide_eq_false (show ¬7≤m.kind by omega)] at e10;exact e10.symm
 ·intro h
  obtain ⟨b1,b2,b3⟩:=h.bat hb
  refine ⟨rfl,rfl,rfl,?_,b1.symm,b2.symm,b3,?_,?_,?_⟩
  ·by_cases k:m.kind≤5
   ·rw [decide_eq_true k];rfl
   ·rw [decide_eq_false k];exact (h.dig (by omega)).symm
  ·by_cases k:m.kind=4
   ·rw [decide_eq_true k];exact ⟨rfl,rfl,rfl,rfl⟩
   ·obtain ⟨c1,c2,c3,c4⟩:=h.head k
    rw [decide_eq_false k];exact ⟨c1.symm,c2.symm,c3.symm,c4.symm⟩
  ·by_cases k:m.kind=6
   ·rw [decide_eq_true k];exact ⟨rfl,rfl,rfl,rfl,rfl,rfl⟩
   ·obtain ⟨c1,c2,c3,c4,c5,c6⟩:=h.cert k
    rw [decide_eq_false k];exact ⟨c1.symm,c2.symm,c3.symm,c4.symm,c5.symm,c6.symm⟩
  ·by_cases k:7≤m.kind
   ·rw [decide_eq_true k];rfl
   ·rw [decide_eq_false k];exact (h.digs (by omega)).symm
open Classical in
theorem msg_dec {n:Int} {m:Msg} (he:okEnds n m) (hk:okKind n m):decide (onlyKind m)=decide (okMsg n m):=by
 rw [decide_eq_decide]
 exact ⟨fun h=>⟨he.isn,he.src,he.dst,he.ne,hk,h⟩,fun h=>h.only⟩
open Classical in
theorem pageX5 {n:Int} {m:Msg} (hf:m.fine) (hk:m.kind=5):ACalls Tryz.prog 9 [m.av,.d (.int .i64 n)] [] (fun av L=>av = .d (.bool (decide (okMsg n m)))∧L=[]):=by
 have h32:=rMay_ok n
 have h46:=rDigest_ok m.digest
 have heq:=eqMsgX_ok (xMsg m true false false false) m (xMsg_fine hf ..) rfl
 rw [show eqM (xMsg m true false false false) m=onlyKind m from propext (by rw [← only_iff (m:=m) (by omega),hk];exact Iff.rfl)] at heq
 refine acalls_go ttOk zOk foOk Tryz.func9 rfl Tryz.ntmps9 rfl false rfl ?_
 refine msg_cut n m _ _ ?_
 conv=>whnf
 refine rdw ?_;repeat' ((with_reducible apply tw)<;>intro _)
 obtain ⟨b,hb⟩:∃ b,isN n=b:=⟨_,rfl⟩
 rw [hb] at h32
 refine h32.mono ?_
 rintro _ _ ⟨rfl,rfl⟩
 cases b
 ·conv=>whnf
  refine rdw ?_;repeat' ((with_reducible apply tw)<;>intro _)
  exact ⟨by rw [decide_eq_false (fun h:okMsg n m=>by have:=h.isn;rw [hb] at this;cases this)];rfl,rfl⟩
 conv=>whnf
 refine rdw ?_;repeat' ((with_reducible apply tw)<;>intro _)
 ·rename_i k
  replace k:m.src<1:=k
  exact ⟨by rw [decide_eq_false (fun h:okMsg n m=>by have:=h.src;omega)];rfl,rfl⟩
 ·rename_i k0 k
  replace k:m.src>n:=k
  exact ⟨by rw [decide_eq_false (fun h:okMsg n m=>by have:=h.src;omega)];rfl,rfl⟩
 ·rename_i k
  replace k:m.dst<1:=k
  exact ⟨by rw [decide_eq_false (fun h:okMsg n m=>by have:=h.dst;omega)];rfl,rfl⟩
 ·rename_i k
  replace k:m.dst>n:=k
  exact ⟨by rw [decide_eq_false (fun h:okMsg n m=>by have:=h.dst;omega)];rfl,rfl⟩
 ·rename_i k
  replace k:m.src=m.dst:=k
  exact ⟨by rw [decide_eq_false (fun h:okMsg n m=>h.ne k)];rfl,rfl⟩
 all_goals first
  | (exfalso;omega)
  | skip
 have he:okEnds n m:=⟨hb,⟨(show 1≤m.src by have:¬m.src<1:=(by assumption);omega),(show m.src≤n by have:¬m.src>n:=(by assumption);omega)⟩,⟨(show 1≤m.dst by have:¬m.dst<1:=(by assumption);omega),(show m.dst≤n by have:¬m.dst>n:=(by assumption);omega)⟩,by assumption⟩
 refine (h46).mono ?_
 rintro _ _ ⟨rfl,rfl⟩
 by_cases j:1≤m.digest∧m.digest≤65536
 ·rw [decide_eq_true j]
  have hok:okKind n m:=⟨by omega,fun h=>j,fun h=>absurd h (by omega),fun h=>absurd h (by omega),fun h=>absurd h (by omega),fun h=>absurd h (by omega)⟩
  conv=>whnf
  refine rdw ?_;repeat' ((with_reducible apply tw)<;>intro _)
  refine (acalls_nw (avs':=[(xMsg m true false false false).av,m.av]) heq (.cons ?_ (.cons (.refl _) .nil))).mono ?_
  ·refine .agg ?_
   repeat (first|exact .nil|refine .cons (.refl _) ?_|refine .cons (.nils _ (by decide)) ?_)
  rintro _ _ ⟨rfl,rfl⟩
  conv=>whnf
  rw [msg_dec he hok]
  exact ⟨rfl,rfl⟩
 ·rw [decide_eq_false j]
  conv=>whnf
  refine rdw ?_;repeat' ((with_reducible apply tw)<;>intro _)
  exact ⟨by rw [decide_eq_false (fun h:okMsg n m=>j (h.ok.dig (by omega)))];rfl,rfl⟩
open Classical in
theorem pageX2 {n:Int} {m:Msg} (hf:m.fine) (hk:m.kind=2):ACalls Tryz.prog 9 [m.av,.d (.int .i64 n)] [] (fun av L=>av = .d (.bool (decide (okMsg n m)))∧L=[]):=by
 have h32:=rMay_ok n
 have h46:=rDigest_ok m.digest
 have heq:=eqMsgX_ok (xMsg m true false false false) m (xMsg_fine hf ..) rfl
 rw [show eqM (xMsg m true false false false) m=onlyKind m from propext (by rw [← only_iff (m:=m) (by omega),hk];exact Iff.rfl)] at heq
 refine acalls_go ttOk zOk foOk Tryz.func9 rfl Tryz.ntmps9 rfl false rfl ?_
 refine msg_cut n m _ _ ?_
 conv=>whnf
 refine rdw ?_;repeat' ((with_reducible apply tw)<;>intro _)
 obtain ⟨b,hb⟩:∃ b,isN n=b:=⟨_,rfl⟩
 rw [hb] at h32
 refine h32.mono ?_
 rintro _ _ ⟨rfl,rfl⟩
 cases b
 ·conv=>whnf
  refine rdw ?_;repeat' ((with_reducible apply tw)<;>intro _)
  exact ⟨by rw [decide_eq_false (fun h:okMsg n m=>by have:=h.isn;rw [hb] at this;cases this)];rfl,rfl⟩
 conv=>whnf
 refine rdw ?_;repeat' ((with_reducible apply tw)<;>intro _)
 ·rename_i k
  replace k:m.src<1:=k
  exact ⟨by rw [decide_eq_false (fun h:okMsg n m=>by have:=h.src;omega)];rfl,rfl⟩
 ·rename_i k0 k
  replace k:m.src>n:=k
  exact ⟨by rw [decide_eq_false (fun h:okMsg n m=>by have:=h.src;omega)];rfl,rfl⟩
 ·rename_i k
  replace k:m.dst<1:=k
  exact ⟨by rw [decide_eq_false (fun h:okMsg n m=>by have:=h.dst;omega)];rfl,rfl⟩
 ·rename_i k
  replace k:m.dst>n:=k
  exact ⟨by rw [decide_eq_false (fun h:okMsg n m=>by have:=h.dst;omega)];rfl,rfl⟩
 ·rename_i k
  replace k:m.src=m.dst:=k
  exact ⟨by rw [decide_eq_false (fun h:okMsg n m=>h.ne k)];rfl,rfl⟩
 all_goals first
  | (exfalso;omega)
  | skip
 have he:okEnds n m:=⟨hb,⟨(show 1≤m.src by have:¬m.src<1:=(by assumption);omega),(show m.src≤n by have:¬m.src>n:=(by assumption);omega)⟩,⟨(show 1≤m.dst by have:¬m.dst<1:=(by assumption);omega),(show m.dst≤n by have:¬m.dst>n:=(by assumption);omega)⟩,by assumption⟩
 refine (h46).mono ?_
 rintro _ _ ⟨rfl,rfl⟩
 by_cases j:1≤m.digest∧m.digest≤65536
 ·rw [decide_eq_true j]
  have hok:okKind n m:=⟨by omega,fun h=>j,fun h=>absurd h (by omega),fun h=>absurd h (by omega),fun h=>absurd h (by omega),fun h=>absurd h (by omega)⟩
  conv=>whnf
  refine rdw ?_;repeat' ((with_reducible apply tw)<;>intro _)
  refine (acalls_nw (avs':=[(xMsg m true false false false).av,m.av]) heq (.cons ?_ (.cons (.refl _) .nil))).mono ?_
  ·refine .agg ?_
   repeat (first|exact .nil|refine .cons (.refl _) ?_|refine .cons (.nils _ (by decide)) ?_)
  rintro _ _ ⟨rfl,rfl⟩
  conv=>whnf
  rw [msg_dec he hok]
  exact ⟨rfl,rfl⟩
 ·rw [decide_eq_false j]
  conv=>whnf
  refine rdw ?_;repeat' ((with_reducible apply tw)<;>intro _)
  exact ⟨by rw [decide_eq_false (fun h:okMsg n m=>j (h.ok.dig (by omega)))];rfl,rfl⟩
open Classical in
theorem pageX6 {n:Int} {m:Msg} (hf:m.fine) (hk:m.kind=6):ACalls Tryz.prog 9 [m.av,.d (.int .i64 n)] [] (fun av L=>av = .d (.bool (decide (okMsg n m)))∧L=[]):=by
 have h32:=rMay_ok n
 have h33:=rCert_ok m.cert hf.cert n
 have heq:=eqMsgX_ok (xMsg m false false true false) m (xMsg_fine hf ..) rfl
 rw [show eqM (xMsg m false false true false) m=onlyKind m from propext (by rw [← only_iff (m:=m) (by omega),hk];exact Iff.rfl)] at heq
 refine acalls_go ttOk zOk foOk Tryz.func9 rfl Tryz.ntmps9 rfl false rfl ?_
 refine msg_cut n m _ _ ?_
 conv=>whnf
 refine rdw ?_;repeat' ((with_reducible apply tw)<;>intro _)
 obtain ⟨b,hb⟩:∃ b,isN n=b:=⟨_,rfl⟩
 rw [hb] at h32
 refine h32.mono ?_
 rintro _ _ ⟨rfl,rfl⟩
 cases b
 ·conv=>whnf
  refine rdw ?_;repeat' ((with_reducible apply tw)<;>intro _)
  exact ⟨by rw [decide_eq_false (fun h:okMsg n m=>by have:=h.isn;rw [hb] at this;cases this)];rfl,rfl⟩
 conv=>whnf
 refine rdw ?_;repeat' ((with_reducible apply tw)<;>intro _)
 ·rename_i k
  replace k:m.src<1:=k
  exact ⟨by rw [decide_eq_false (fun h:okMsg n m=>by have:=h.src;omega)];rfl,rfl⟩
 ·rename_i k0 k
  replace k:m.src>n:=k
  exact ⟨by rw [decide_eq_false (fun h:okMsg n m=>by have:=h.src;omega)];rfl,rfl⟩
 ·rename_i k
  replace k:m.dst<1:=k
  exact ⟨by rw [decide_eq_false (fun h:okMsg n m=>by have:=h.dst;omega)];rfl,rfl⟩
 ·rename_i k
  replace k:m.dst>n:=k
  exact ⟨by rw [decide_eq_false (fun h:okMsg n m=>by have:=h.dst;omega)];rfl,rfl⟩
 ·rename_i k
  replace k:m.src=m.dst:=k
  exact ⟨by rw [decide_eq_false (fun h:okMsg n m=>h.ne k)];rfl,rfl⟩
 all_goals first
  | (exfalso;omega)
  | skip
 have he:okEnds n m:=⟨hb,⟨(show 1≤m.src by have:¬m.src<1:=(by assumption);omega),(show m.src≤n by have:¬m.src>n:=(by assumption);omega)⟩,⟨(show 1≤m.dst by have:¬m.dst<1:=(by assumption);omega),(show m.dst≤n by have:¬m.dst>n:=(by assumption);omega)⟩,by assumption⟩
 refine (h33).mono ?_
 rintro _ _ ⟨rfl,rfl⟩
 by_cases j:okCert n m.cert
 ·rw [decide_eq_true j]
  have hok:okKind n m:=⟨by omega,fun h=>absurd h (by omega),fun h=>absurd h (by omega),fun h=>absurd h (by omega),fun h=>j,fun h=>absurd h (by omega)⟩
  conv=>whnf
  refine rdw ?_;repeat' ((with_reducible apply tw)<;>intro _)
  refine (acalls_nw (avs':=[(xMsg m false false true false).av,m.av]) heq (.cons ?_ (.cons (.refl _) .nil))).mono ?_
  ·refine .agg ?_
   repeat (first|exact .nil|refine .cons (.refl _) ?_|refine .cons (.nils _ (by decide)) ?_)
  rintro _ _ ⟨rfl,rfl⟩
  conv=>whnf
  rw [msg_dec he hok]
  exact ⟨rfl,rfl⟩
 ·rw [decide_eq_false j]
  conv=>whnf
  refine rdw ?_;repeat' ((with_reducible apply tw)<;>intro _)
  exact ⟨by rw [decide_eq_false (fun h:okMsg n m=>j (h.ok.cert hk))];rfl,rfl⟩
open Classical in
theorem pageX8 {n:Int} {m:Msg} (hf:m.fine) (hk:m.kind=8):ACalls Tryz.prog 9 [m.av,.d (.int .i64 n)] [] (fun av L=>av = .d (.bool (decide (okMsg n m)))∧L=[]):=by
 have h32:=rMay_ok n
 have h91:=rdigests_ok m.digs hf.digs 16
 have hll:=nums_length m.digs
 have heq:=eqMsgX_ok (xMsg m false false false true) m (xMsg_fine hf ..) rfl
 rw [show eqM (xMsg m false false false true) m=onlyKind m from propext (by rw [← only_iff (m:=m) (by omega),hk];exact Iff.rfl)] at heq
 refine acalls_go ttOk zOk foOk Tryz.func9 rfl Tryz.ntmps9 rfl false rfl ?_
 refine msg_cut n m _ _ ?_
 conv=>whnf
 refine rdw ?_;repeat' ((with_reducible apply tw)<;>intro _)
 obtain ⟨b,hb⟩:∃ b,isN n=b:=⟨_,rfl⟩
 rw [hb] at h32
 refine h32.mono ?_
 rintro _ _ ⟨rfl,rfl⟩
 cases b
 ·conv=>whnf
  refine rdw ?_;repeat' ((with_reducible apply tw)<;>intro _)
  exact ⟨by rw [decide_eq_false (fun h:okMsg n m=>by have:=h.isn;rw [hb] at this;cases this)];rfl,rfl⟩
 conv=>whnf
 refine rdw ?_;repeat' ((with_reducible apply tw)<;>intro _)
 ·rename_i k
  replace k:m.src<1:=k
  exact ⟨by rw [decide_eq_false (fun h:okMsg n m=>by have:=h.src;omega)];rfl,rfl⟩
 ·rename_i k0 k
  replace k:m.src>n:=k
  exact ⟨by rw [decide_eq_false (fun h:okMsg n m=>by have:=h.src;omega)];rfl,rfl⟩
 ·rename_i k
  replace k:m.dst<1:=k
  exact ⟨by rw [decide_eq_false (fun h:okMsg n m=>by have:=h.dst;omega)];rfl,rfl⟩
 ·rename_i k
  replace k:m.dst>n:=k
  exact ⟨by rw [decide_eq_false (fun h:okMsg n m=>by have:=h.dst;omega)];rfl,rfl⟩
 ·rename_i k
  replace k:m.src=m.dst:=k
  exact ⟨by rw [decide_eq_false (fun h:okMsg n m=>h.ne k)];rfl,rfl⟩
 all_goals first
  | (exfalso;omega)
  | skip
 have he:okEnds n m:=⟨hb,⟨(show 1≤m.src by have:¬m.src<1:=(by assumption);omega),(show m.src≤n by have:¬m.src>n:=(by assumption);omega)⟩,⟨(show 1≤m.dst by have:¬m.dst<1:=(by assumption);omega),(show m.dst≤n by have:¬m.dst>n:=(by assumption);omega)⟩,by assumption⟩
 ·rename_i k
  replace k:((nums m.digs).length:Int)≥1:=k
  refine (h91).mono ?_
  rintro _ _ ⟨rfl,rfl⟩
  by_cases j:(m.digs.length:Int)≤16∧riseB m.digs 1 65536
  ·rw [decide_eq_true j]
   have hok:okKind n m:=⟨by omega,fun h=>absurd h (by omega),fun h=>absurd h (by omega),fun h=>absurd h (by omega),fun h=>absurd h (by omega),fun h=>⟨⟨by omega,by have:=j.1;omega⟩,j.2⟩⟩
   conv=>whnf
   refine rdw ?_;repeat' ((with_reducible apply tw)<;>intro _)
   refine (acalls_nw (avs':=[(xMsg m false false false true).av,m.av]) heq (.cons ?_ (.cons (.refl _) .nil))).mono ?_
   ·refine .agg ?_
    repeat (first|exact .nil|refine .cons (.refl _) ?_|refine .cons (.nils _ (by decide)) ?_)
   rintro _ _ ⟨rfl,rfl⟩
   conv=>whnf
   rw [msg_dec he hok]
   exact ⟨rfl,rfl⟩
  ·rw [decide_eq_false j]
   conv=>whnf
   refine rdw ?_;repeat' ((with_reducible apply tw)<;>intro _)
   exact ⟨by rw [decide_eq_false (fun h:okMsg n m=>j ⟨by have:=(h.ok.digs (by omega)).1.2;omega,(h.ok.digs (by omega)).2⟩)];rfl,rfl⟩
 ·rename_i k
  replace k:¬((nums m.digs).length:Int)≥1:=k
  exact ⟨by rw [decide_eq_false (fun h:okMsg n m=>by have:=(h.ok.digs (by omega)).1.1;omega)];rfl,rfl⟩
open Classical in
theorem pageX7 {n:Int} {m:Msg} (hf:m.fine) (hk:m.kind=7):ACalls Tryz.prog 9 [m.av,.d (.int .i64 n)] [] (fun av L=>av = .d (.bool (decide (okMsg n m)))∧L=[]):=by
 have h32:=rMay_ok n
 have h91:=rdigests_ok m.digs hf.digs 16
 have hll:=nums_length m.digs
 have heq:=eqMsgX_ok (xMsg m false false false true) m (xMsg_fine hf ..) rfl
 rw [show eqM (xMsg m false false false true) m=onlyKind m from propext (by rw [← only_iff (m:=m) (by omega),hk];exact Iff.rfl)] at heq
 refine acalls_go ttOk zOk foOk Tryz.func9 rfl Tryz.ntmps9 rfl false rfl ?_
 refine msg_cut n m _ _ ?_
 conv=>whnf
 refine rdw ?_;repeat' ((with_reducible apply tw)<;>intro _)
 obtain ⟨b,hb⟩:∃ b,isN n=b:=⟨_,rfl⟩
 rw [hb] at h32
 refine h32.mono ?_
 rintro _ _ ⟨rfl,rfl⟩
 cases b
 ·conv=>whnf
  refine rdw ?_;repeat' ((with_reducible apply tw)<;>intro _)
  exact ⟨by rw [decide_eq_false (fun h:okMsg n m=>by have:=h.isn;rw [hb] at this;cases this)];rfl,rfl⟩
 conv=>whnf
 refine rdw ?_;repeat' ((with_reducible apply tw)<;>intro _)
 ·rename_i k
  replace k:m.src<1:=k
  exact ⟨by rw [decide_eq_false (fun h:okMsg n m=>by have:=h.src;omega)];rfl,rfl⟩
 ·rename_i k0 k
  replace k:m.src>n:=k
  exact ⟨by rw [decide_eq_false (fun h:okMsg n m=>by have:=h.src;omega)];rfl,rfl⟩
 ·rename_i k
  replace k:m.dst<1:=k
  exact ⟨by rw [decide_eq_false (fun h:okMsg n m=>by have:=h.dst;omega)];rfl,rfl⟩
 ·rename_i k
  replace k:m.dst>n:=k
  exact ⟨by rw [decide_eq_false (fun h:okMsg n m=>by have:=h.dst;omega)];rfl,rfl⟩
 ·rename_i k
  replace k:m.src=m.dst:=k
  exact ⟨by rw [decide_eq_false (fun h:okMsg n m=>h.ne k)];rfl,rfl⟩
 all_goals first
  | (exfalso;omega)
  | skip
 have he:okEnds n m:=⟨hb,⟨(show 1≤m.src by have:¬m.src<1:=(by assumption);omega),(show m.src≤n by have:¬m.src>n:=(by assumption);omega)⟩,⟨(show 1≤m.dst by have:¬m.dst<1:=(by assumption);omega),(show m.dst≤n by have:¬m.dst>n:=(by assumption);omega)⟩,by assumption⟩
 ·rename_i k
  replace k:((nums m.digs).length:Int)≥1:=k
  refine (h91).mono ?_
  rintro _ _ ⟨rfl,rfl⟩
  by_cases j:(m.digs.length:Int)≤16∧riseB m.digs 1 65536
  ·rw [decide_eq_true j]
   have hok:okKind n m:=⟨by omega,fun h=>absurd h (by omega),fun h=>absurd h (by omega),fun h=>absurd h (by omega),fun h=>absurd h (by omega),fun h=>⟨⟨by omega,by have:=j.1;omega⟩,j.2⟩⟩
   conv=>whnf
   refine rdw ?_;repeat' ((with_reducible apply tw)<;>intro _)
   refine (acalls_nw (avs':=[(xMsg m false false false true).av,m.av]) heq (.cons ?_ (.cons (.refl _) .nil))).mono ?_
   ·refine .agg ?_
    repeat (first|exact .nil|refine .cons (.refl _) ?_|refine .cons (.nils _ (by decide)) ?_)
   rintro _ _ ⟨rfl,rfl⟩
   conv=>whnf
   rw [msg_dec he hok]
   exact ⟨rfl,rfl⟩
  ·rw [decide_eq_false j]
   conv=>whnf
   refine rdw ?_;repeat' ((with_reducible apply tw)<;>intro _)
   exact ⟨by rw [decide_eq_false (fun h:okMsg n m=>j ⟨by have:=(h.ok.digs (by omega)).1.2;omega,(h.ok.digs (by omega)).2⟩)];rfl,rfl⟩
 ·rename_i k
  replace k:¬((nums m.digs).length:Int)≥1:=k
  exact ⟨by rw [decide_eq_false (fun h:okMsg n m=>by have:=(h.ok.digs (by omega)).1.1;omega)];rfl,rfl⟩
open Classical in
theorem pageX4 {n:Int} {m:Msg} (hf:m.fine) (hk:m.kind=4):ACalls Tryz.prog 9 [m.av,.d (.int .i64 n)] [] (fun av L=>av = .d (.bool (decide (okMsg n m)))∧L=[]):=by
 have h32:=rMay_ok n
 have h46:=rDigest_ok m.digest
 have h47:=rHeader_ok m.head hf.head n
 have heq:=eqMsgX_ok (xMsg m true true false false) m (xMsg_fine hf ..) rfl
 rw [show eqM (xMsg m true true false false) m=onlyKind m from propext (by rw [← only_iff (m:=m) (by omega),hk];exact Iff.rfl)] at heq
 refine acalls_go ttOk zOk foOk Tryz.func9 rfl Tryz.ntmps9 rfl false rfl ?_
 refine msg_cut n m _ _ ?_
 conv=>whnf
 refine rdw ?_;repeat' ((with_reducible apply tw)<;>intro _)
 obtain ⟨b,hb⟩:∃ b,isN n=b:=⟨_,rfl⟩
 rw [hb] at h32
 refine h32.mono ?_
 rintro _ _ ⟨rfl,rfl⟩
 cases b
 ·conv=>whnf
  refine rdw ?_;repeat' ((with_reducible apply tw)<;>intro _)
  exact ⟨by rw [decide_eq_false (fun h:okMsg n m=>by have:=h.isn;rw [hb] at this;cases this)];rfl,rfl⟩
 conv=>whnf
 refine rdw ?_;repeat' ((with_reducible apply tw)<;>intro _)
 ·rename_i k
  replace k:m.src<1:=k
  exact ⟨by rw [decide_eq_false (fun h:okMsg n m=>by have:=h.src;omega)];rfl,rfl⟩
 ·rename_i k0 k
  replace k:m.src>n:=k
  exact ⟨by rw [decide_eq_false (fun h:okMsg n m=>by have:=h.src;omega)];rfl,rfl⟩
 ·rename_i k
  replace k:m.dst<1:=k
  exact ⟨by rw [decide_eq_false (fun h:okMsg n m=>by have:=h.dst;omega)];rfl,rfl⟩
 ·rename_i k
  replace k:m.dst>n:=k
  exact ⟨by rw [decide_eq_false (fun h:okMsg n m=>by have:=h.dst;omega)];rfl,rfl⟩
 ·rename_i k
  replace k:m.src=m.dst:=k
  exact ⟨by rw [decide_eq_false (fun h:okMsg n m=>h.ne k)];rfl,rfl⟩
 all_goals first
  | (exfalso;omega)
  | skip
 have he:okEnds n m:=⟨hb,⟨(show 1≤m.src by have:¬m.src<1:=(by assumption);omega),(show m.src≤n by have:¬m.src>n:=(by assumption);omega)⟩,⟨(show 1≤m.dst by have:¬m.dst<1:=(by assumption);omega),(show m.dst≤n by have:¬m.dst>n:=(by assumption);omega)⟩,by assumption⟩
 ((with_reducible refine draw_pl ttOk zOk foOk mixedOk pl9x15 ?_ ?_);(focus kernel_rfl);(conv=>whnf))
 refine rdw ?_;repeat' ((with_reducible apply tw)<;>intro _)
 refine (h46).mono ?_
 rintro _ _ ⟨rfl,rfl⟩
 by_cases j:1≤m.digest∧m.digest≤65536
 ·rw [decide_eq_true j]
  conv=>whnf
  refine rdw ?_;repeat' ((with_reducible apply tw)<;>intro _)
  refine h47.mono ?_
  rintro _ _ ⟨rfl,rfl⟩
  by_cases j2:okHead n m.head
  ·rw [decide_eq_true j2]
   conv=>whnf
   refine rdw ?_;repeat' ((with_reducible apply tw)<;>intro _)
   ·rename_i j3
    replace j3:m.head.author=m.src:=j3
    have hok:okKind n m:=⟨by omega,fun h=>j,fun h=>absurd h (by omega),fun h=>⟨j2,j3⟩,fun h=>absurd h (by omega),fun h=>absurd h (by omega)⟩
    conv=>whnf
    refine rdw ?_;repeat' ((with_reducible apply tw)<;>intro _)
    refine (acalls_nw (avs':=[(xMsg m true true false false).av,m.av]) heq (.cons ?_ (.cons (.refl _) .nil))).mono ?_
    ·refine .agg ?_
     repeat (first|exact .nil|refine .cons (.refl _) ?_|refine .cons (.nils _ (by decide)) ?_)
    rintro _ _ ⟨rfl,rfl⟩
    conv=>whnf
    rw [msg_dec he hok]
    exact ⟨rfl,rfl⟩
   ·rename_i j3
    replace j3:m.head.author≠m.src:=j3
    exact ⟨by rw [decide_eq_false (fun h:okMsg n m=>j3 (h.ok.head hk).2)];rfl,rfl⟩
  ·rw [decide_eq_false j2]
   conv=>whnf
   refine rdw ?_;repeat' ((with_reducible apply tw)<;>intro _)
   exact ⟨by rw [decide_eq_false (fun h:okMsg n m=>j2 (h.ok.head hk).1)];rfl,rfl⟩
 ·rw [decide_eq_false j]
  conv=>whnf
  refine rdw ?_;repeat' ((with_reducible apply tw)<;>intro _)
  exact ⟨by rw [decide_eq_false (fun h:okMsg n m=>j (h.ok.dig (by omega)))];rfl,rfl⟩
end Go.Proofs.YtgkhgapkfnkagaaGreatDoor
open Go Go.Claim Go.Proofs
namespace Go.Proofs.YtgkhgapkfnkagaaGreatDoor
open Go.Ab Go.RowKit Go.MapKept
attribute [local irreducible] ACalls AW ADraw fltB fnear
set_option maxRecDepth 100000
end Go.Proofs.YtgkhgapkfnkagaaGreatDoor
namespace Go.Proofs.YtgkhgapkfnkagaaGreatDoor
open Go.Ab Go.RowKit Go.MapKept
attribute [local irreducible] ACalls AW ADraw fltB fnear
set_option maxRecDepth 100000
theorem eqTx_ok:eqOkB Tryz.prog 52 [true,true,false,false]=true:=by kernel_rfl
theorem eqTxs_same (l:List Tx) (hl:few l):ACalls Tryz.prog 165 [.d (.sl 4 (txsD l)),.d (.sl 4 (txsD l))] [] (fun av L=>av = .d (.bool true)∧L=[]):=by
 have hcl:=txsD_len l
 unfold few at hl
 (refine acalls_go ttOk zOk foOk Tryz.func165 rfl Tryz.ntmps165 rfl false rfl ?_);(conv=>whnf)
 refine rdw ?_;repeat' ((with_reducible apply tw)<;>intro _)
 ·rename_i hx;exact absurd rfl hx
 ·refine loop_go ttOk zOk foOk (σ:=Nat) (fun k=>([(0,.d (.sl 4 (txsD l))),(1,.d (.sl 4 (txsD l))),(5,.d (.int .i64 k))],[])) (fun k=>k≤l.length) (fun k=>l.length - k) [0,1,5] ?_ ?_
  ·conv=>whnf
   exact ⟨0,rfl,rfl,by omega⟩
  ·intro k hk
   conv=>whnf
   rw [hcl]
   refine rdw ?_;repeat' ((with_reducible apply tw)<;>intro _)
   ·rename_i hkl
    refine Exists.elim (⟨_,List.getElem?_eq_getElem (by omega)⟩:∃ c,l[k]? = some c) fun c hc => ?_
    ((with_reducible refine draw_pl ttOk zOk foOk mixedOk pl165x6 ?_ ?_);(focus kernel_rfl);(conv=>whnf))
    repeat' (first|(first|((with_reducible first|apply rd_intro|apply gd_and);(focus ((conv=>whnf)<;>first|rfl|(intro K hK;(conv=>whnf);first|exact hK|exact z_wrap (by omega) hK)));conv=>whnf)|((with_reducible apply z_wrap);(focus omega);conv=>whnf)|((with_reducible first|apply mt_dec|apply mt_eq|apply mt_ne|apply mt_not|apply mt_any)<;>(intro _;conv=>whnf)))|((with_reducible apply rd_intro);(focus (intro K hK;(conv=>whnf);exact ⟨by omega,c.cs,txsD_at hc,hK⟩));(conv=>whnf))|((with_reducible apply rd_intro);(focus (intro K hK;(conv=>whnf);exact ⟨eqTx_ok,hK⟩));(conv=>whnf))|fail)
    ·rename_i hb
     exfalso
     revert hb
     simp
    ·exact ⟨k+1,rfl,rfl,by omega,by omega⟩
   ·exact ⟨rfl,rfl⟩
theorem eqBatch_same (a b:Int) (l:List Tx) (hl:few l):ACalls Tryz.prog 94 [.agg [.d (.int .i64 a),.d (.int .i64 b),.d (.sl 4 (txsD l))],.agg [.d (.int .i64 a),.d (.int .i64 b),.d (.sl 4 (txsD l))]] [] (fun av L=>av = .d (.bool true)∧L=[]):=by
 have h1:=eqTxs_same l hl
 (refine acalls_go ttOk zOk foOk Tryz.func94 rfl Tryz.ntmps94 rfl false rfl ?_);(conv=>whnf)
 refine rdw ?_;repeat' ((with_reducible apply tw)<;>intro _)
 ·(refine (h1).mono ?_;rintro _ _ ⟨rfl,rfl⟩;(conv=>whnf))
  exact ⟨rfl,rfl⟩
 all_goals (rename_i hx;exact absurd rfl hx)
attribute [local irreducible] SL
end Go.Proofs.YtgkhgapkfnkagaaGreatDoor
namespace Go.Proofs.YtgkhgapkfnkagaaGreatDoor
open Go.Ab Go.RowKit Go.MapKept
attribute [local irreducible] ACalls AW ADraw fltB fnear
set_option maxRecDepth 100000
theorem rId_ok (n:Int):ACalls Tryz.prog 88 [.d (.int .i64 n)] [] (fun av L=>av = .d (.bool (decide (1≤n∧n≤1099511627776)))∧L=[]):=by
 (refine acalls_go ttOk zOk foOk Tryz.func88 rfl Tryz.ntmps88 rfl false rfl ?_);(conv=>whnf)
 refine rdz ?_;repeat' ((with_reducible apply tw)<;>intro _)
 all_goals first
  | exact ⟨by rw [decide_eq_false (p:=1≤n∧n≤1099511627776) (fun h=>by omega)];rfl,rfl⟩
  | exact ⟨boolEq (by simp only [decide_eq_true_iff];omega),rfl⟩
open Classical in
theorem rTx_ok (t:Tx):ACalls Tryz.prog 164 [t.av] [] (fun av L=>av = .d (.bool (decide (okTx t)))∧L=[]):=by
 have h1:=rId_ok t.sender
 have h2:=rId_ok t.seq
 (refine acalls_go ttOk zOk foOk Tryz.func164 rfl Tryz.ntmps164 rfl false rfl ?_);(conv=>whnf)
 refine rdz ?_;repeat' ((with_reducible apply tw)<;>intro _)
 refine h1.mono ?_
 rintro _ _ ⟨rfl,rfl⟩
 by_cases k1:1≤t.sender∧t.sender≤1099511627776
 rotate_left
 ·rw [decide_eq_false k1]
  conv=>whnf
  refine rdz ?_;repeat' ((with_reducible apply tw)<;>intro _)
  exact ⟨by rw [decide_eq_false (fun h:okTx t=>k1 h.sender)];rfl,rfl⟩
 rw [decide_eq_true k1]
 conv=>whnf
 refine rdz ?_;repeat' ((with_reducible apply tw)<;>intro _)
 refine h2.mono ?_
 rintro _ _ ⟨rfl,rfl⟩
 by_cases k2:1≤t.seq∧t.seq≤1099511627776
 rotate_left
 ·rw [decide_eq_false k2]
  conv=>whnf
  refine rdz ?_;repeat' ((with_reducible apply tw)<;>intro _)
  exact ⟨by rw [decide_eq_false (fun h:okTx t=>k2 h.seq)];rfl,rfl⟩
 rw [decide_eq_true k2]
 conv=>whnf
 refine rdz ?_;repeat' ((with_reducible apply tw)<;>intro _)
 all_goals first
  | exact ⟨boolEq (by simp only [decide_eq_true_iff];exact ⟨fun h=>⟨k1,k2,by omega,by omega⟩,fun h=>by have:=h.val;omega⟩),rfl⟩
  | exact ⟨by rw [decide_eq_false (fun h:okTx t=>by have:=h.key;have:=h.val;omega)];rfl,rfl⟩
open Classical in
theorem rTxs_ok (l:List Tx) (hl:few l):ACalls Tryz.prog 89 [.d (.sl 4 (txsD l))] [] (fun av L=>av = .d (.bool (decide (∀ t∈l,okTx t)))∧L=[]):=by
 have hcl:=txsD_len l
 unfold few at hl
 (refine acalls_go ttOk zOk foOk Tryz.func89 rfl Tryz.ntmps89 rfl false rfl ?_);(conv=>whnf)
 refine rdz ?_;repeat' ((with_reducible apply tw)<;>intro _)
 refine loop_go ttOk zOk foOk (σ:=Nat) (fun j=>([(0,.d (.sl 4 (txsD l))),(3,.d (.int .i64 j))],[])) (fun j=>j≤l.length∧∀ t∈l.take j,okTx t) (fun j=>l.length - j) [0,3] ?_ ?_
 ·conv=>whnf
  exact ⟨0,rfl,rfl,Nat.zero_le _,by simp⟩
 ·rintro j ⟨hj,ho⟩
  conv=>whnf
  refine rdz ?_;repeat' ((with_reducible apply tw)<;>intro _)
  ·rename_i hjl
   replace hjl:(j:Int)<((txsD l).length:Int):=hjl
   refine Exists.elim (⟨_,List.getElem?_eq_getElem (by omega)⟩:∃ c,l[j]? = some c) fun t ht => ?_
   refine ⟨by omega,t.cs,txsD_at ht,?_⟩
   conv=>whnf
   refine (rTx_ok t).mono ?_
   rintro _ _ ⟨rfl,rfl⟩
   by_cases h:okTx t
   ·rw [decide_eq_true h]
    conv=>whnf
    refine rdz ?_;repeat' ((with_reducible apply tw)<;>intro _)
    refine ⟨j+1,rfl,rfl,⟨by omega,fun x hx => ?_⟩,by omega⟩
    rw [List.take_add_one,ht] at hx
    rcases List.mem_append.1 hx with hx|hx
    ·exact ho x hx
    ·simp at hx;subst hx;exact h
   ·rw [decide_eq_false h]
    conv=>whnf
    refine rdz ?_;repeat' ((with_reducible apply tw)<;>intro _)
    exact ⟨by rw [decide_eq_false (fun hh:∀ t∈l,okTx t=>h (hh t (List.mem_of_getElem? ht)))];rfl,rfl⟩
  ·rename_i hjl
   replace hjl:¬(j:Int)<((txsD l).length:Int):=hjl
   rw [List.take_of_length_le (by omega)] at ho
   exact ⟨by rw [decide_eq_true ho];rfl,rfl⟩
open Classical in
theorem rBatch_ok (m:Msg) (hl:few m.txs):ACalls Tryz.prog 34 [m.bav] [] (fun av L=>av = .d (.bool (decide (okBatch m)))∧L=[]):=by
 have hcl:=txsD_len m.txs
 have h1:=rId_ok m.bn
 have h2:=rTxs_ok m.txs hl
 (refine acalls_go ttOk zOk foOk Tryz.func34 rfl Tryz.ntmps34 rfl false rfl ?_);(conv=>whnf)
 refine rdz ?_;repeat' ((with_reducible apply tw)<;>intro _)
 all_goals first
  | exact ⟨by rw [decide_eq_false (fun h:okBatch m=>by have:=h.author;omega)];rfl,rfl⟩
  | skip
 refine h1.mono ?_
 rintro _ _ ⟨rfl,rfl⟩
 by_cases k2:1≤m.bn∧m.bn≤1099511627776
 rotate_left
 ·rw [decide_eq_false k2]
  conv=>whnf
  refine rdz ?_;repeat' ((with_reducible apply tw)<;>intro _)
  exact ⟨by rw [decide_eq_false (fun h:okBatch m=>k2 h.n)];rfl,rfl⟩
 rw [decide_eq_true k2]
 conv=>whnf
 refine rdz ?_;repeat' ((with_reducible apply tw)<;>intro _)
 all_goals first
  | exact ⟨by rw [decide_eq_false (fun h:okBatch m=>by have:=h.len;omega)];rfl,rfl⟩
  | skip
 (refine (h2).mono ?_;rintro _ _ ⟨rfl,rfl⟩;(conv=>whnf))
 exact ⟨boolEq (by simp only [decide_eq_true_iff];exact ⟨fun h=>⟨by omega,k2,by omega,h⟩,fun h=>h.txs⟩),rfl⟩
def xB (m:Msg):Msg:=⟨m.kind,m.src,m.dst,m.digest,m.ba,m.bn,m.txs,cz0,cz0,[]⟩
def eqBm (m:Msg):Prop:=(cz0.author=m.head.author∧cz0.round=m.head.round∧cz0.bats=m.head.bats∧cz0.pars=m.head.pars)∧(cz0.author=m.cert.author∧cz0.round=m.cert.round∧cz0.bats=m.cert.bats∧cz0.pars=m.cert.pars∧cz0.digest=m.cert.digest∧cz0.sigs=m.cert.sigs)∧[]=m.digs
theorem onlyB {m:Msg} (hk:m.kind=1∨m.kind=3):onlyKind m↔eqBm m:=by
 constructor
 ·intro h
  obtain ⟨a1,a2,a3,a4⟩:=h.head (by omega)
  obtain ⟨b1,b2,b3,b4,b5,b6⟩:=h.cert (by omega)
  exact ⟨⟨a1.symm,a2.symm,a3.symm,a4.symm⟩,⟨b1.symm,b2.symm,b3.symm,b4.symm,b5.symm,b6.symm⟩,(h.digs (by omega)).symm⟩
 ·rintro ⟨⟨a1,a2,a3,a4⟩,⟨b1,b2,b3,b4,b5,b6⟩,c⟩
  exact ⟨fun h=>by omega,fun h=>by omega,fun _=>⟨a1.symm,a2.symm,a3.symm,a4.symm⟩,fun _=>⟨b1.symm,b2.symm,b3.symm,b4.symm,b5.symm,b6.symm⟩,fun _=>c.symm⟩
open Classical in
theorem eqMsgB_ok (m:Msg) (hf:m.fine) (hk:m.kind=1∨m.kind=3):ACalls Tryz.prog 38 [(xB m).av,m.av] [] (fun av L=>av = .d (.bool (decide (onlyKind m)))∧L=[]):=by
 have h1:=eqBatch_same m.ba m.bn m.txs hf.txs
 have h2:=eqHeader_ok cz0 m.head ⟨Nat.zero_le _,Nat.zero_le _⟩
 have h3:=eqCert_ok cz0 m.cert (fit_few z_fit)
 have h4:=eqNumbers_ok [] m.digs (Nat.zero_le _)
 rw [show onlyKind m=eqBm m from propext (onlyB hk)]
 (refine acalls_go ttOk zOk foOk Tryz.func38 rfl Tryz.ntmps38 rfl false rfl ?_);(conv=>whnf)
 refine rdz ?_;repeat' ((with_reducible apply tw)<;>intro _)
 all_goals first|(rename_i hx;exact absurd rfl hx)|skip
 (refine (h1).mono ?_;rintro _ _ ⟨rfl,rfl⟩;(conv=>whnf))
 refine rdz ?_;repeat' ((with_reducible apply tw)<;>intro _)
 refine h2.mono ?_
 rintro _ _ ⟨rfl,rfl⟩
 by_cases j2:cz0.author=m.head.author∧cz0.round=m.head.round∧cz0.bats=m.head.bats∧cz0.pars=m.head.pars
 ·rw [@decide_eq_true _ (_) j2]
  conv=>whnf
  refine rdz ?_;repeat' ((with_reducible apply tw)<;>intro _)
  refine h3.mono ?_
  rintro _ _ ⟨rfl,rfl⟩
  by_cases j3:cz0.author=m.cert.author∧cz0.round=m.cert.round∧cz0.bats=m.cert.bats∧cz0.pars=m.cert.pars∧cz0.digest=m.cert.digest∧cz0.sigs=m.cert.sigs
  ·rw [@decide_eq_true _ (_) j3]
   conv=>whnf
   refine rdz ?_;repeat' ((with_reducible apply tw)<;>intro _)
   refine h4.mono ?_
   rintro _ _ ⟨rfl,rfl⟩
   conv=>whnf
   refine ⟨?_,rfl⟩
   congr 2
   rw [decide_eq_decide]
   exact ⟨fun h=>⟨j2,j3,h⟩,fun h=>h.2.2⟩
  ·rw [@decide_eq_false _ (_) j3]
   conv=>whnf
   refine rdz ?_;repeat' ((with_reducible apply tw)<;>intro _)
   rw [decide_eq_false (fun h:eqBm m=>j3 h.2.1)]
   exact ⟨rfl,rfl⟩
 ·rw [@decide_eq_false _ (_) j2]
  conv=>whnf
  refine rdz ?_;repeat' ((with_reducible apply tw)<;>intro _)
  rw [decide_eq_false (fun h:eqBm m=>j2 h.1)]
  exact ⟨rfl,rfl⟩
open Classical in
theorem pageX13 {n:Int} {m:Msg} (hf:m.fine) (hk:m.kind=1∨m.kind=3):ACalls Tryz.prog 9 [m.av,.d (.int .i64 n)] [] (fun av L=>av = .d (.bool (decide (okMsg n m)))∧L=[]):=by
 have h32:=rMay_ok n
 have h46:=rDigest_ok m.digest
 have h47:=rBatch_ok m hf.txs
 have heq:=eqMsgB_ok m hf hk
 refine acalls_go ttOk zOk foOk Tryz.func9 rfl Tryz.ntmps9 rfl false rfl ?_
 refine msg_cut n m _ _ ?_
 conv=>whnf
 refine rdw ?_;repeat' ((with_reducible apply tw)<;>intro _)
 obtain ⟨b,hb⟩:∃ b,isN n=b:=⟨_,rfl⟩
 rw [hb] at h32
 refine h32.mono ?_
 rintro _ _ ⟨rfl,rfl⟩
 cases b
 ·conv=>whnf
  refine rdw ?_;repeat' ((with_reducible apply tw)<;>intro _)
  exact ⟨by rw [decide_eq_false (fun h:okMsg n m=>by have:=h.isn;rw [hb] at this;cases this)];rfl,rfl⟩
 conv=>whnf
 refine rdw ?_;repeat' ((with_reducible apply tw)<;>intro _)
 ·rename_i k
  replace k:m.src<1:=k
  exact ⟨by rw [decide_eq_false (fun h:okMsg n m=>by have:=h.src;omega)];rfl,rfl⟩
 ·rename_i k0 k
  replace k:m.src>n:=k
  exact ⟨by rw [decide_eq_false (fun h:okMsg n m=>by have:=h.src;omega)];rfl,rfl⟩
 ·rename_i k
  replace k:m.dst<1:=k
  exact ⟨by rw [decide_eq_false (fun h:okMsg n m=>by have:=h.dst;omega)];rfl,rfl⟩
 ·rename_i k
  replace k:m.dst>n:=k
  exact ⟨by rw [decide_eq_false (fun h:okMsg n m=>by have:=h.dst;omega)];rfl,rfl⟩
 ·rename_i k
  replace k:m.src=m.dst:=k
  exact ⟨by rw [decide_eq_false (fun h:okMsg n m=>h.ne k)];rfl,rfl⟩
 all_goals first
  | (exfalso;omega)
  | skip
 all_goals
  have he:okEnds n m:=⟨hb,⟨(show 1≤m.src by have:¬m.src<1:=(by assumption);omega),(show m.src≤n by have:¬m.src>n:=(by assumption);omega)⟩,⟨(show 1≤m.dst by have:¬m.dst<1:=(by assumption);omega),(show m.dst≤n by have:¬m.dst>n:=(by assumption);omega)⟩,by assumption⟩
  ((with_reducible refine draw_pl ttOk zOk foOk mixedOk pl9x8 ?_ ?_);(focus kernel_rfl);(conv=>whnf))
  refine rdw ?_;repeat' ((with_reducible apply tw)<;>intro _)
  refine (h46).mono ?_
  rintro _ _ ⟨rfl,rfl⟩
  by_cases j:1≤m.digest∧m.digest≤65536
  ·rw [decide_eq_true j]
   conv=>whnf
   refine rdw ?_;repeat' ((with_reducible apply tw)<;>intro _)
   refine h47.mono ?_
   rintro _ _ ⟨rfl,rfl⟩
   by_cases j2:okBatch m
   ·rw [decide_eq_true j2]
    conv=>whnf
    refine rdw ?_;repeat' ((with_reducible apply tw)<;>intro _)
    ·rename_i j3
     replace j3:m.ba≤n:=j3
     have hok:okKind n m:=⟨by omega,fun h=>j,fun h=>⟨j2,j3⟩,fun h=>absurd h (by omega),fun h=>absurd h (by omega),fun h=>absurd h (by omega)⟩
     conv=>whnf
     refine rdw ?_;repeat' ((with_reducible apply tw)<;>intro _)
     refine (acalls_nw (avs':=[(xB m).av,m.av]) heq (.cons ?_ (.cons (.refl _) .nil))).mono ?_
     ·refine .agg ?_
      repeat (first|exact .nil|refine .cons (.refl _) ?_|refine .cons (.nils _ (by decide)) ?_)
     rintro _ _ ⟨rfl,rfl⟩
     conv=>whnf
     rw [msg_dec he hok]
     exact ⟨rfl,rfl⟩
    ·rename_i j3
     replace j3:¬m.ba≤n:=j3
     exact ⟨by rw [decide_eq_false (fun h:okMsg n m=>j3 (h.ok.bat hk).2)];rfl,rfl⟩
   ·rw [decide_eq_false j2]
    conv=>whnf
    refine rdw ?_;repeat' ((with_reducible apply tw)<;>intro _)
    exact ⟨by rw [decide_eq_false (fun h:okMsg n m=>j2 (h.ok.bat hk).1)];rfl,rfl⟩
  ·rw [decide_eq_false j]
   conv=>whnf
   refine rdw ?_;repeat' ((with_reducible apply tw)<;>intro _)
   exact ⟨by rw [decide_eq_false (fun h:okMsg n m=>j (h.ok.dig (by omega)))];rfl,rfl⟩
open Classical in
theorem pageX0 {n:Int} {m:Msg} (hk:m.kind<1∨8<m.kind):ACalls Tryz.prog 9 [m.av,.d (.int .i64 n)] [] (fun av L=>av = .d (.bool (decide (okMsg n m)))∧L=[]):=by
 have h32:=rMay_ok n
 refine acalls_go ttOk zOk foOk Tryz.func9 rfl Tryz.ntmps9 rfl false rfl ?_
 refine msg_cut n m _ _ ?_
 conv=>whnf
 refine rdw ?_;repeat' ((with_reducible apply tw)<;>intro _)
 obtain ⟨b,hb⟩:∃ b,isN n=b:=⟨_,rfl⟩
 rw [hb] at h32
 refine h32.mono ?_
 rintro _ _ ⟨rfl,rfl⟩
 cases b
 ·conv=>whnf
  refine rdw ?_;repeat' ((with_reducible apply tw)<;>intro _)
  exact ⟨by rw [decide_eq_false (fun h:okMsg n m=>by have:=h.isn;rw [hb] at this;cases this)];rfl,rfl⟩
 conv=>whnf
 refine rdw ?_;repeat' ((with_reducible apply tw)<;>intro _)
 ·rename_i k
  replace k:m.src<1:=k
  exact ⟨by rw [decide_eq_false (fun h:okMsg n m=>by have:=h.src;omega)];rfl,rfl⟩
 ·rename_i k0 k
  replace k:m.src>n:=k
  exact ⟨by rw [decide_eq_false (fun h:okMsg n m=>by have:=h.src;omega)];rfl,rfl⟩
 ·rename_i k
  replace k:m.dst<1:=k
  exact ⟨by rw [decide_eq_false (fun h:okMsg n m=>by have:=h.dst;omega)];rfl,rfl⟩
 ·rename_i k
  replace k:m.dst>n:=k
  exact ⟨by rw [decide_eq_false (fun h:okMsg n m=>by have:=h.dst;omega)];rfl,rfl⟩
 ·rename_i k
  replace k:m.src=m.dst:=k
  exact ⟨by rw [decide_eq_false (fun h:okMsg n m=>h.ne k)];rfl,rfl⟩
 all_goals first
  | (exfalso;omega)
  | skip
 all_goals exact ⟨by rw [decide_eq_false (fun h:okMsg n m=>by have:=h.ok.kind;omega)];rfl,rfl⟩
open Classical in
theorem pageX_ok {n:Int} {m:Msg} (hf:m.fine):ACalls Tryz.prog 9 [m.av,.d (.int .i64 n)] [] (fun av L=>av = .d (.bool (decide (okMsg n m)))∧L=[]):=by
 have h:(m.kind=1∨m.kind=3)∨m.kind=2∨m.kind=4∨m.kind=5∨m.kind=6∨m.kind=7∨m.kind=8∨(m.kind<1∨8<m.kind):=by omega
 rcases h with h|h|h|h|h|h|h|h
 ·exact pageX13 hf h
 ·exact pageX2 hf h
 ·exact pageX4 hf h
 ·exact pageX5 hf h
 ·exact pageX6 hf h
 ·exact pageX7 hf h
 ·exact pageX8 hf h
 ·exact pageX0 h
end Go.Proofs.YtgkhgapkfnkagaaGreatDoor
namespace Go.Proofs.YtgkhgapkfnkagaaGreatDoor
end Go.Proofs.YtgkhgapkfnkagaaGreatDoor
namespace Go.Proofs.YtgkhgapkfnkagaaGreatDoor
open Go.Ab Go.RowKit Go.MapKept
attribute [local irreducible] ACalls AW ADraw fltB fnear
set_option maxRecDepth 100000
open Classical
def nodeC (j1 b s:Nat):List AV:=[.d (.int .i64 1),.d (.int .i64 4),.d (.int .i64 1),.d .nils,.d (.int .i64 0),.d (.int .i64 0),.d .nils,.d .nils,.d .nils,.d (.int .i64 1),.d (.int .i64 4),.d (.int .i64 1),.d (.int .i64 0),.d (.int .i64 0),.d (.int .i64 0),.d (.int .i64 0),.d .nils,.d .nils,.d (.int .i64 0),.d .nils,.d .nils,.d (.int .i64 4),.d (.int .i64 0),.d .nils,.d .nils,.d (.int .i64 1),.d (.int .i64 4),.d .nils,.d (.int .i64 0),.d .nils,.d (.int .i64 0),.d .nils,.d .nils,.d .nils,.d (.int .i64 0),.arr j1,.d .nils,.d (.int .i64 1),.d (.int .i64 4),.ptr b 0,.ptr s 0,.d (.bool false)]
def nodeH (c:Nat):AB := .cells (nodeC c (c+1) (c+2))
def kids (c:Nat):List AB:=[.row 3 1 [] false,.cells [.map (c+3),.d .nils,.map (c+4)],.cells [.ptr (c+5) 0,.d (.bool false)],.map [],.map [],.cells [.ptr (c+6) 0,.map (c+7),.d (.int .i64 0),.d (.bool false)],.cells [.ptr (c+8) 0,.d .nils,.d (.int .i64 0),.d (.bool false),.d (.bool false)],.map [],.cells [.d (.int .i64 0),.d (.bool false),.d (.int .i64 0),.map (c+9)],.map []]
theorem take1_bad (m:Msg) (hf:m.fine) (hb:¬(okMsg 4 m∧m.dst=1)):ACalls Tryz.prog 40 [.ptr 0 0,.ptr 1 0] (.cells (m.cs.map AV.d) :: .cells [.ptr 2 0] :: nodeH 3 :: kids 3) (fun av L=>av = .tup [.d (.sl 18 []),.d (.int .i64 1)]∧L = .cells (m.cs.map AV.d) :: .cells [.ptr 2 0] :: nodeH 3 :: kids 3):=by
 have hm:=msgMay_full m hf 4
 (refine acalls_go ttOk zOk foOk Tryz.func40 rfl Tryz.ntmps40 rfl false rfl ?_);(conv=>whnf)
 ((with_reducible refine draw_pl ttOk zOk foOk mixedOk pl40x1 ?_ ?_);(focus kernel_rfl);(conv=>whnf))
 refine rdw ?_;repeat' ((with_reducible apply tw)<;>intro _)
 refine hm.mono ?_
 rintro _ _ ⟨rfl,rfl⟩
 by_cases ho:okMsg 4 m
 ·have hd:m.dst≠1:=fun h=>hb ⟨ho,h⟩
  rw [decide_eq_true ho]
  conv=>whnf
  refine rdw ?_;repeat' ((with_reducible apply tw)<;>intro _)
  all_goals first
   | exact ⟨rfl,rfl⟩
   | (exfalso;omega)
 ·rw [decide_eq_false ho]
  conv=>whnf
  refine rdw ?_;repeat' ((with_reducible apply tw)<;>intro _)
  exact ⟨rfl,rfl⟩
theorem call_bad (m:Msg) (hf:m.fine) (hb:¬(okMsg 4 m∧m.dst=1)):ACalls Tryz.prog 39 [.ptr 0 0,.fn 40 [.ptr 1 0,.ptr 2 0]] (nodeH 3 :: .cells (m.cs.map AV.d) :: .cells [.ptr 0 0] :: kids 3) (fun av L=>av = .tup [.d (.sl 18 []),.d (.int .i64 1)]∧L=nodeH 3 :: .cells (m.cs.map AV.d) :: .cells [.ptr 0 0] :: kids 3):=by
 have ht:=take1_bad m hf hb
 (refine acalls_go ttOk zOk foOk Tryz.func39 rfl Tryz.ntmps39 rfl false rfl ?_);(conv=>whnf)
 refine ht.mono ?_
 rintro _ _ ⟨rfl,rfl⟩
 conv=>whnf
 refine rdw ?_;repeat' ((with_reducible apply tw)<;>intro _)
 exact ⟨rfl,rfl⟩
theorem take_bad (m:Msg) (hf:m.fine) (hb:¬(okMsg 4 m∧m.dst=1)):ACalls Tryz.prog 10 [.ptr 0 0,m.av] (nodeH 1 :: kids 1) (fun av L=>av = .tup [.d (.sl 18 []),.d (.int .i64 1)]∧L=nodeH 1 :: kids 1):=by
 have ht:=call_bad m hf hb
 (refine acalls_go ttOk zOk foOk Tryz.func10 rfl Tryz.ntmps10 rfl false rfl ?_);(conv=>whnf)
 refine rdw ?_;repeat' ((with_reducible apply tw)<;>intro _)
 refine ht.mono ?_
 rintro _ _ ⟨rfl,rfl⟩
 conv=>whnf
 refine rdw ?_;repeat' ((with_reducible apply tw)<;>intro _)
 exact ⟨rfl,rfl⟩
end Go.Proofs.YtgkhgapkfnkagaaGreatDoor
namespace Go.Proofs.YtgkhgapkfnkagaaGreatDoor
open Go Go.Ab Go.RowKit Go.Lib Go.Proofs Go.Shelf
set_option maxRecDepth 100000
def rC (f S E:Nat):Ren:=⟨fun _=>f,fun k=>if k=22 then S else if k=23 then E else 4,fun k=>k⟩
theorem emptyRow {c:Ctx} (hc:c.wf) {E0:Nat→Option Nat} {L:List AB} {w w':World} (hs:SimH c E0 L w) {e n:Nat} (hrn:RN e n) {v:Value} (hown:w'.ownsRow w.heap.size e n v 0 []) (hb:Below w.heap.size w w') :
  ∃ E',SimH c E' (L++[.row e n [] false]) w'∧VR (rcOf c.M0 E' (L++[.row e n [] false]) w') (.arr L.length) v:=by
 have hkeep:Keeps w w':=⟨hb.os,hb.tape,hb.output,hb.size,hb.block⟩
 obtain ⟨_,⟨rfl,_⟩|⟨g,cap,cur,rfl,hg,hhg,hcap1,hcap2,hcs,htake⟩⟩:=hown
 ·refine ⟨Eupd E0 L.length none,hs.extend hc hkeep (.row e n [] false) none (fun b h=>by cases h) (fun b h=>by simp [AB.boxes] at h) (by simp [AB.boxes]) (fun b h=>by simp [AB.boxes] at h) ?_,?_⟩
  ·simp only [BR]
   exact ⟨hrn,by simp,trivial⟩
  ·simp only [VR]
   exact ⟨.row e n [] false,by simp,by simp [arRel,Eupd]⟩
 ·refine ⟨Eupd E0 L.length (some g),hs.extend hc hkeep (.row e n [] false) (some g) (fun b h=>by cases h;exact hg) (fun b h=>by simp [AB.boxes] at h) (by simp [AB.boxes]) (fun b h=>by simp [AB.boxes] at h) ?_,?_⟩
  ·simp only [BR]
   exact ⟨hrn,by simp,cap,cur,hhg,hcs,by simp,hcap2,by simp [VDs,Cs]⟩
  ·simp only [VR]
   exact ⟨.row e n [] false,by simp,by simp only [arRel,Eupd,if_true];exact ⟨cap,cur,rfl,hhg,hcs⟩⟩
theorem owns_nil (w:World) (e n:Nat):w.ownsRow w.heap.size e n (.slice none 0 0) 0 []:=⟨by simp,.inl ⟨rfl,rfl⟩⟩
theorem row_post {ρ:Nat→Nat} {L:Hp} {nx e n:Nat} {c:Ctx} (hc:c.wf) (hs:SimH c c.E0 (inH ρ L) c.w0) (hrn:RN e n) {v:Value} {w':World} (hown:w'.ownsRow c.w0.heap.size e n v 0 []) (hb:Below c.w0.heap.size c.w0 w') :
  ∃ v' av L' E',Ending.returned v = .returned v'∧(∃ ρ',Ext nx nx ρ ρ'∧av=inA ρ' (.arr (hN L))∧L'=inH ρ' (psh L (.row e n [] false)))∧SimH c E' L' w'∧VR (rcOf c.M0 E' L' w') av v':=by
 obtain ⟨E',h1,h2⟩:=emptyRow hc hs hrn hown hb
 refine ⟨v,.arr (inH ρ L).length,inH ρ L++[.row e n [] false],E',rfl,⟨ρ,Ext.refl ..,?_,?_⟩,h1,h2⟩
 ·show AV.arr _=AV.arr (hN L)
  rw [inH_len]
 ·rw [inH_psh];rfl
variable {P:Program} {ρ:Ren}
set_option maxHeartbeats 2000000 in
theorem clone_zero (L:SlLaysE0.n41 P ρ) (i0:TypeInfo) (z:Value) (size bytes:Nat) (hi:P.info? (ρ.t 23)=some i0) (hz0:i0.zero=some z) (hz1:i0.size=size) (hz2:i0.bytes=bytes) (hzs:z.cells.size=size) (hsz:0<size)
  (z23:∀ w,(Go.sizeOf (ρ.t 23)).run P w = .ok size w) (a:Addr) (c:Nat) (w:World) :
  Calls P (ρ.f 41) #[.slice (some a) 0 c] w fun e w'=>∃ v',e = .returned v'∧w'.ownsRow w.heap.size (ρ.t 23) size v' 0 []∧Below w.heap.size w w':=by
 have mixed:=L.mixed;have t4:=L.t4;have a4:=L.a4;have z4:=L.z4;have v4:=L.v4;have t22:=L.t22;have a22:=L.a22;have z22:=L.z22;have v22:=L.v22
 have q22:∀ (w:World) (a:Option Addr) (n c n' c':Nat),(binOp .eql (ρ.t 22) (.slice a n c) (.slice none n' c')).run P w = .ok (.bool a.isNone) w:=fun w a n c n' c'=>Lib.run_eql_slice_nil w _ _ a n c n' c' L.t22
 have u22:∀ w,Sem.run P (underlying (ρ.t 22)) w = .ok (TypeDesc.slice (ρ.t 23)) w:=run_underlying t22
 obtain ⟨_,_,FG⟩:=L.f41
 go_enter FG,SlBodyN.n41_ntmps ρ
 go_wp2_with (at_builtin;refine wpList_append_own _ rfl _ _ (ρ.t 22) rfl w.heap.size (ρ.t 23) i0 z size bytes t22 hi hz0 hz1 hz2 hzs hsz _ _ _ rfl (World.ownsRow_made w #[] 0 (Nat.le_refl _) (Nat.zero_le _) (by simp)) a 0 c [] rfl (by simp) (by intro j u hj;simp at hj) (by intro u hu;cases hu) (by unfold maxLen;omega) (by omega) (by simp) ?_)
 intro v' w1 hown hgrow hnil
 go_wp2
 go_ret
 refine ⟨v',rfl,by simpa using hown,?_⟩
 exact ((Below.refl _ w).alloc (Nat.le_refl _) _).grown hgrow (by simp) (by intro k hk;simp [Value.ownBlock] at hk;omega)
theorem cl0_ok {f S E n:Nat} (Lay:SlLaysE0.n41 Tryz.prog (rC f S E)) {i0:TypeInfo} {z:Value} {bytes:Nat} (hi:Tryz.prog.info? E=some i0) (hz0:i0.zero=some z) (hz1:i0.size=n) (hz2:i0.bytes=bytes) (hzs:z.cells.size=n) (hn:0<n)
  (hsz:∀ w,(Go.sizeOf E).run Tryz.prog w = .ok n w) (hrn:RN E n):∀ avs Lh nx v L' nx',cl0E E n avs Lh nx=some (v,L',nx')→∀ ρ,ACalls Tryz.prog f (inAs ρ avs) (inH ρ Lh) (fun av Lo=>∃ ρ',Ext nx nx' ρ ρ'∧av=inA ρ' v∧Lo=inH ρ' L'):=by
 intro avs Lh nx v L' nx' h ρ
 have key:∀ (c:Ctx),c.wf→SimH c c.E0 (inH ρ Lh) c.w0→∀ (a:Option Addr) (cap:Nat),Calls Tryz.prog f #[.slice a 0 cap] c.w0 fun e w'=>∃ v' av L' E',e = .returned v'∧(∃ ρ',Ext nx nx ρ ρ'∧av=inA ρ' (.arr (hN Lh))∧L'=inH ρ' (psh Lh (.row E n [] false)))∧SimH c E' L' w'∧VR (rcOf c.M0 E' L' w') av v':=by
  intro c hc hs a cap
  cases a with
  | none =>
    refine (AnyE.slices_Clone_nil Lay 0 cap c.w0).mono ?_
    rintro e w' ⟨rfl,rfl⟩
    exact row_post hc hs hrn (owns_nil _ _ _) (Below.refl _ _)
  | some x =>
    refine (clone_zero Lay i0 z n bytes hi hz0 hz1 hz2 hzs hn hsz x cap c.w0).mono ?_
    rintro e w' ⟨v',rfl,hown,hb⟩
    exact row_post hc hs hrn hown hb
 unfold cl0E at h
 split at h
 ·rename_i m
  split at h
  ·rename_i hb
   cases h
   intro c vs hc hL0 hs hv
   simp only [inAs,inA,VRt,VR,VD] at hv
   obtain ⟨u,us,hvs,⟨_,a,cap,rfl,_⟩,rfl⟩:=hv
   have hvs':vs = #[.slice a 0 cap]:=by rw [← Array.toArray_toList (xs:=vs),hvs];rfl
   rw [hvs']
   exact key c hc hs a cap
  ·cases h
 ·rename_i j
  split at h
  ·rename_i e' m sh hj
   split at h
   ·rename_i hb
    cases h
    simp only [Bool.and_eq_true] at hb
    intro c vs hc hL0 hs hv
    simp only [inAs,inA,VRt,VR] at hv
    obtain ⟨u,us,hvs,⟨ab,hab,har⟩,rfl⟩:=hv
    have hj2:=inH_at (ρ:=ρ) hj
    rw [hj2] at hab
    cases hab
    obtain ⟨a,cap,rfl⟩:∃ a cap,u = .slice a 0 cap:=by
     revert har
     simp only [inB,arRel]
     cases c.E0 j with
     | none=>intro h;exact ⟨none,0,h⟩
     | some b=>rintro ⟨cap,cur,h,_⟩;exact ⟨_,cap,h⟩
    have hvs':vs = #[.slice a 0 cap]:=by rw [← Array.toArray_toList (xs:=vs),hvs]
    rw [hvs']
    exact key c hc hs a cap
   ·cases h
  ·cases h
 ·cases h
theorem lay53:SlLaysE0.n41 Tryz.prog (rC 53 36 3) where
 mixed:=by kernel_rfl
 f41:=⟨"slices.Clone[[]int,int]",by decide,by kernel_rfl⟩
 t4:=Tryz.underlying4
 a4:=Tryz.isAgg4
 z4:=Tryz.sizeOf4
 v4:=Tryz.zeroValue4
 t22:=Tryz.underlying36
 a22:=Tryz.isAgg36
 z22:=Tryz.sizeOf36
 v22:=Tryz.zeroValue36
theorem info53:(Tryz.prog.info? 3).map (fun i=>(i.zero,i.size,i.bytes))=some (some (.int .i64 0),1,8):=by kernel_rfl
theorem cl53_ok:∀ avs Lh nx v L' nx',cl0E 3 1 avs Lh nx=some (v,L',nx')→∀ ρ,ACalls Tryz.prog 53 (inAs ρ avs) (inH ρ Lh) (fun av Lo=>∃ ρ',Ext nx nx' ρ ρ'∧av=inA ρ' v∧Lo=inH ρ' L'):=by
 obtain ⟨i0,hi,hz0,hz1,hz2⟩:=info_parts info53
 exact cl0_ok lay53 hi hz0 hz1 hz2 (by kernel_rfl) (by decide) Tryz.sizeOf3 ⟨by decide,by kernel_rfl⟩
theorem lay56:SlLaysE0.n41 Tryz.prog (rC 56 33 52) where
 mixed:=by kernel_rfl
 f41:=⟨"slices.Clone[[]drover/api.Tx,drover/api.Tx]",by decide,by kernel_rfl⟩
 t4:=Tryz.underlying4
 a4:=Tryz.isAgg4
 z4:=Tryz.sizeOf4
 v4:=Tryz.zeroValue4
 t22:=Tryz.underlying33
 a22:=Tryz.isAgg33
 z22:=Tryz.sizeOf33
 v22:=Tryz.zeroValue33
theorem info56:(Tryz.prog.info? 52).map (fun i=>(i.zero,i.size,i.bytes))=some (some (.agg #[.int .i64 0,.int .i64 0,.string (ByteArray.mk #[]),.string (ByteArray.mk #[])]),4,48):=by kernel_rfl
theorem cl56_ok:∀ avs Lh nx v L' nx',cl0E 52 4 avs Lh nx=some (v,L',nx')→∀ ρ,ACalls Tryz.prog 56 (inAs ρ avs) (inH ρ Lh) (fun av Lo=>∃ ρ',Ext nx nx' ρ ρ'∧av=inA ρ' v∧Lo=inH ρ' L'):=by
 obtain ⟨i0,hi,hz0,hz1,hz2⟩:=info_parts info56
 exact cl0_ok lay56 hi hz0 hz1 hz2 (by kernel_rfl) (by decide) Tryz.sizeOf52 ⟨by decide,by kernel_rfl⟩
theorem lay76:SlLaysE0.n41 Tryz.prog (rC 76 69 148) where
 mixed:=by kernel_rfl
 f41:=⟨"slices.Clone[[]drover/api.Vote,drover/api.Vote]",by decide,by kernel_rfl⟩
 t4:=Tryz.underlying4
 a4:=Tryz.isAgg4
 z4:=Tryz.sizeOf4
 v4:=Tryz.zeroValue4
 t22:=Tryz.underlying69
 a22:=Tryz.isAgg69
 z22:=Tryz.sizeOf69
 v22:=Tryz.zeroValue69
theorem info76:(Tryz.prog.info? 148).map (fun i=>(i.zero,i.size,i.bytes))=some (some (.agg #[.int .i64 0,.int .i64 0,.int .i64 0]),3,24):=by kernel_rfl
theorem cl76_ok:∀ avs Lh nx v L' nx',cl0E 148 3 avs Lh nx=some (v,L',nx')→∀ ρ,ACalls Tryz.prog 76 (inAs ρ avs) (inH ρ Lh) (fun av Lo=>∃ ρ',Ext nx nx' ρ ρ'∧av=inA ρ' v∧Lo=inH ρ' L'):=by
 obtain ⟨i0,hi,hz0,hz1,hz2⟩:=info_parts info76
 exact cl0_ok lay76 hi hz0 hz1 hz2 (by kernel_rfl) (by decide) Tryz.sizeOf148 ⟨by decide,by kernel_rfl⟩
theorem lay87:SlLaysE0.n41 Tryz.prog (rC 87 172 5) where
 mixed:=by kernel_rfl
 f41:=⟨"slices.Clone[[]byte,byte]",by decide,by kernel_rfl⟩
 t4:=Tryz.underlying4
 a4:=Tryz.isAgg4
 z4:=Tryz.sizeOf4
 v4:=Tryz.zeroValue4
 t22:=Tryz.underlying172
 a22:=Tryz.isAgg172
 z22:=Tryz.sizeOf172
 v22:=Tryz.zeroValue172
theorem info87:(Tryz.prog.info? 5).map (fun i=>(i.zero,i.size,i.bytes))=some (some (.int .u8 0),1,1):=by kernel_rfl
theorem cl87_ok:∀ avs Lh nx v L' nx',cl0E 5 1 avs Lh nx=some (v,L',nx')→∀ ρ,ACalls Tryz.prog 87 (inAs ρ avs) (inH ρ Lh) (fun av Lo=>∃ ρ',Ext nx nx' ρ ρ'∧av=inA ρ' v∧Lo=inH ρ' L'):=by
 obtain ⟨i0,hi,hz0,hz1,hz2⟩:=info_parts info87
 exact cl0_ok lay87 hi hz0 hz1 hz2 (by kernel_rfl) (by decide) Tryz.sizeOf5 ⟨by decide,by kernel_rfl⟩
theorem lay142:SlLaysE0.n41 Tryz.prog (rC 142 47 40) where
 mixed:=by kernel_rfl
 f41:=⟨"slices.Clone[[]drover/api.Cert,drover/api.Cert]",by decide,by kernel_rfl⟩
 t4:=Tryz.underlying4
 a4:=Tryz.isAgg4
 z4:=Tryz.sizeOf4
 v4:=Tryz.zeroValue4
 t22:=Tryz.underlying47
 a22:=Tryz.isAgg47
 z22:=Tryz.sizeOf47
 v22:=Tryz.zeroValue47
theorem info142:(Tryz.prog.info? 40).map (fun i=>(i.zero,i.size,i.bytes))=some (some (.agg #[.int .i64 0,.int .i64 0,.slice none 0 0,.slice none 0 0,.int .i64 0,.slice none 0 0]),6,96):=by kernel_rfl
theorem cl142_ok:∀ avs Lh nx v L' nx',cl0E 40 6 avs Lh nx=some (v,L',nx')→∀ ρ,ACalls Tryz.prog 142 (inAs ρ avs) (inH ρ Lh) (fun av Lo=>∃ ρ',Ext nx nx' ρ ρ'∧av=inA ρ' v∧Lo=inH ρ' L'):=by
 obtain ⟨i0,hi,hz0,hz1,hz2⟩:=info_parts info142
 exact cl0_ok lay142 hi hz0 hz1 hz2 (by kernel_rfl) (by decide) Tryz.sizeOf40 ⟨by decide,by kernel_rfl⟩
theorem lay200:SlLaysE0.n41 Tryz.prog (rC 200 74 223) where
 mixed:=by kernel_rfl
 f41:=⟨"slices.Clone[[]drover/api.Row,drover/api.Row]",by decide,by kernel_rfl⟩
 t4:=Tryz.underlying4
 a4:=Tryz.isAgg4
 z4:=Tryz.sizeOf4
 v4:=Tryz.zeroValue4
 t22:=Tryz.underlying74
 a22:=Tryz.isAgg74
 z22:=Tryz.sizeOf74
 v22:=Tryz.zeroValue74
theorem info200:(Tryz.prog.info? 223).map (fun i=>(i.zero,i.size,i.bytes))=some (some (.agg #[.int .i64 0,.int .i64 0,.int .i64 0,.int .i64 0]),4,32):=by kernel_rfl
theorem cl200_ok:∀ avs Lh nx v L' nx',cl0E 223 4 avs Lh nx=some (v,L',nx')→∀ ρ,ACalls Tryz.prog 200 (inAs ρ avs) (inH ρ Lh) (fun av Lo=>∃ ρ',Ext nx nx' ρ ρ'∧av=inA ρ' v∧Lo=inH ρ' L'):=by
 obtain ⟨i0,hi,hz0,hz1,hz2⟩:=info_parts info200
 exact cl0_ok lay200 hi hz0 hz1 hz2 (by kernel_rfl) (by decide) Tryz.sizeOf223 ⟨by decide,by kernel_rfl⟩
theorem lay203:SlLaysE0.n41 Tryz.prog (rC 203 79 294) where
 mixed:=by kernel_rfl
 f41:=⟨"slices.Clone[[]drover/api.Pair,drover/api.Pair]",by decide,by kernel_rfl⟩
 t4:=Tryz.underlying4
 a4:=Tryz.isAgg4
 z4:=Tryz.sizeOf4
 v4:=Tryz.zeroValue4
 t22:=Tryz.underlying79
 a22:=Tryz.isAgg79
 z22:=Tryz.sizeOf79
 v22:=Tryz.zeroValue79
theorem info203:(Tryz.prog.info? 294).map (fun i=>(i.zero,i.size,i.bytes))=some (some (.agg #[.string (ByteArray.mk #[]),.string (ByteArray.mk #[])]),2,32):=by kernel_rfl
theorem cl203_ok:∀ avs Lh nx v L' nx',cl0E 294 2 avs Lh nx=some (v,L',nx')→∀ ρ,ACalls Tryz.prog 203 (inAs ρ avs) (inH ρ Lh) (fun av Lo=>∃ ρ',Ext nx nx' ρ ρ'∧av=inA ρ' v∧Lo=inH ρ' L'):=by
 obtain ⟨i0,hi,hz0,hz1,hz2⟩:=info_parts info203
 exact cl0_ok lay203 hi hz0 hz1 hz2 (by kernel_rfl) (by decide) Tryz.sizeOf294 ⟨by decide,by kernel_rfl⟩
theorem lay204:SlLaysE0.n41 Tryz.prog (rC 204 80 297) where
 mixed:=by kernel_rfl
 f41:=⟨"slices.Clone[[]drover/api.Account,drover/api.Account]",by decide,by kernel_rfl⟩
 t4:=Tryz.underlying4
 a4:=Tryz.isAgg4
 z4:=Tryz.sizeOf4
 v4:=Tryz.zeroValue4
 t22:=Tryz.underlying80
 a22:=Tryz.isAgg80
 z22:=Tryz.sizeOf80
 v22:=Tryz.zeroValue80
theorem info204:(Tryz.prog.info? 297).map (fun i=>(i.zero,i.size,i.bytes))=some (some (.agg #[.int .i64 0,.int .i64 0]),2,16):=by kernel_rfl
theorem cl204_ok:∀ avs Lh nx v L' nx',cl0E 297 2 avs Lh nx=some (v,L',nx')→∀ ρ,ACalls Tryz.prog 204 (inAs ρ avs) (inH ρ Lh) (fun av Lo=>∃ ρ',Ext nx nx' ρ ρ'∧av=inA ρ' v∧Lo=inH ρ' L'):=by
 obtain ⟨i0,hi,hz0,hz1,hz2⟩:=info_parts info204
 exact cl0_ok lay204 hi hz0 hz1 hz2 (by kernel_rfl) (by decide) Tryz.sizeOf297 ⟨by decide,by kernel_rfl⟩
theorem lay207:SlLaysE0.n41 Tryz.prog (rC 207 210 9) where
 mixed:=by kernel_rfl
 f41:=⟨"slices.Clone[[]string,string]",by decide,by kernel_rfl⟩
 t4:=Tryz.underlying4
 a4:=Tryz.isAgg4
 z4:=Tryz.sizeOf4
 v4:=Tryz.zeroValue4
 t22:=Tryz.underlying210
 a22:=Tryz.isAgg210
 z22:=Tryz.sizeOf210
 v22:=Tryz.zeroValue210
theorem info207:(Tryz.prog.info? 9).map (fun i=>(i.zero,i.size,i.bytes))=some (some (.string (ByteArray.mk #[])),1,16):=by kernel_rfl
theorem cl207_ok:∀ avs Lh nx v L' nx',cl0E 9 1 avs Lh nx=some (v,L',nx')→∀ ρ,ACalls Tryz.prog 207 (inAs ρ avs) (inH ρ Lh) (fun av Lo=>∃ ρ',Ext nx nx' ρ ρ'∧av=inA ρ' v∧Lo=inH ρ' L'):=by
 obtain ⟨i0,hi,hz0,hz1,hz2⟩:=info_parts info207
 exact cl0_ok lay207 hi hz0 hz1 hz2 (by kernel_rfl) (by decide) Tryz.sizeOf9 ⟨by decide,by kernel_rfl⟩
theorem lay277:SlLaysE0.n41 Tryz.prog (rC 277 66 135) where
 mixed:=by kernel_rfl
 f41:=⟨"slices.Clone[[]drover/api.Held,drover/api.Held]",by decide,by kernel_rfl⟩
 t4:=Tryz.underlying4
 a4:=Tryz.isAgg4
 z4:=Tryz.sizeOf4
 v4:=Tryz.zeroValue4
 t22:=Tryz.underlying66
 a22:=Tryz.isAgg66
 z22:=Tryz.sizeOf66
 v22:=Tryz.zeroValue66
theorem info277:(Tryz.prog.info? 135).map (fun i=>(i.zero,i.size,i.bytes))=some (some (.agg #[.int .i64 0,.int .i64 0,.int .i64 0,.slice none 0 0]),4,48):=by kernel_rfl
theorem cl277_ok:∀ avs Lh nx v L' nx',cl0E 135 4 avs Lh nx=some (v,L',nx')→∀ ρ,ACalls Tryz.prog 277 (inAs ρ avs) (inH ρ Lh) (fun av Lo=>∃ ρ',Ext nx nx' ρ ρ'∧av=inA ρ' v∧Lo=inH ρ' L'):=by
 obtain ⟨i0,hi,hz0,hz1,hz2⟩:=info_parts info277
 exact cl0_ok lay277 hi hz0 hz1 hz2 (by kernel_rfl) (by decide) Tryz.sizeOf135 ⟨by decide,by kernel_rfl⟩
theorem lay279:SlLaysE0.n41 Tryz.prog (rC 279 65 165) where
 mixed:=by kernel_rfl
 f41:=⟨"slices.Clone[[]drover/api.Wait,drover/api.Wait]",by decide,by kernel_rfl⟩
 t4:=Tryz.underlying4
 a4:=Tryz.isAgg4
 z4:=Tryz.sizeOf4
 v4:=Tryz.zeroValue4
 t22:=Tryz.underlying65
 a22:=Tryz.isAgg65
 z22:=Tryz.sizeOf65
 v22:=Tryz.zeroValue65
theorem info279:(Tryz.prog.info? 165).map (fun i=>(i.zero,i.size,i.bytes))=some (some (.agg #[.int .i64 0,.slice none 0 0]),2,32):=by kernel_rfl
theorem cl279_ok:∀ avs Lh nx v L' nx',cl0E 165 2 avs Lh nx=some (v,L',nx')→∀ ρ,ACalls Tryz.prog 279 (inAs ρ avs) (inH ρ Lh) (fun av Lo=>∃ ρ',Ext nx nx' ρ ρ'∧av=inA ρ' v∧Lo=inH ρ' L'):=by
 obtain ⟨i0,hi,hz0,hz1,hz2⟩:=info_parts info279
 exact cl0_ok lay279 hi hz0 hz1 hz2 (by kernel_rfl) (by decide) Tryz.sizeOf165 ⟨by decide,by kernel_rfl⟩
set_option maxHeartbeats 4000000 in
theorem grow_w (n:Nat) (w:World) (hn:0<n) (hbig:n≤1000000000) :
  Calls Tryz.prog 161 #[.slice none 0 0,.int .i64 n] w fun e w'=>e = .returned (.slice (some ⟨w.heap.size,0,none⟩) 0 (grownCap w n 0 3)) ∧
   w'=w.drew.alloc (.cells (#[]++Builtin.zeroCells (Value.int .i64 0).cells n++Builtin.zeroCells (Value.int .i64 0).cells (grownCap w n 0 3 - n)) 3):=by
 have mixed:Tryz.prog.follows .mixedOrders=true:=by kernel_rfl
 have t0:=Tryz.underlying0;have a0:=Tryz.isAgg0;have z0:=Tryz.sizeOf0;have v0:=Tryz.zeroValue0
 have t3:=Tryz.underlying3;have a3:=Tryz.isAgg3;have z3:=Tryz.sizeOf3;have v3:=Tryz.zeroValue3
 have t4:=Tryz.underlying4;have a4:=Tryz.isAgg4;have z4:=Tryz.sizeOf4;have v4:=Tryz.zeroValue4
 have t22:=Tryz.underlying36;have a22:=Tryz.isAgg36;have z22:=Tryz.sizeOf36;have v22:=Tryz.zeroValue36
 have u0:=run_underlying t0;have u3:=run_underlying t3;have u4:=run_underlying t4;have u22:=run_underlying t22
 have h1:¬((n:Int)<0):=by omega
 have h2:IntKind.i64.wrap (0 - 0)=0:=by decide
 have h3:IntKind.i64.wrap ((n:Int) - 0)=(n:Int):=by rw [IntKind.wrap_i64];omega
 have h4:(n:Int)>0:=by omega
 have hold:(Builtin.firstCells 1 0 (.slice none 0 0)).run Tryz.prog w.drew = .ok #[] w.drew:=run_firstCells_none w.drew 1 0 0 0
 obtain ⟨i0,hi,hz0,hz1,hz2⟩:=info_parts info53
 have hrz:∀ ty,(Builtin.append_ #[36,3] ty #[.slice none 0 0,.int .i64 (n:Int)]).run Tryz.prog w =
   .ok (.slice (some ⟨w.heap.size,0,none⟩) n (grownCap w n 0 3)) (w.drew.alloc (.cells (#[]++Builtin.zeroCells (Value.int .i64 0).cells n++Builtin.zeroCells (Value.int .i64 0).cells (grownCap w n 0 3 - n)) 3)):=fun ty=>by
  have h:=Lib.run_append_grow_zeros w 36 3 ty 3 i0 (.int .i64 0) .i64 .i64 t22 t3 hi hz0 none 0 0 [] (by rw [hz1];exact hold) n hn (by rw [hz1];decide) (by omega) (by omega) (by rw [hz2];omega)
   (by rw [hz2];exact growslice_fits (by omega) (by omega))
  rw [Nat.zero_add] at h
  exact h
 have hGn:n≤grownCap w n 0 3:=grownCap_ge w _ _ _
 obtain ⟨G,hG⟩:∃ G,G=grownCap w n 0 3:=⟨_,rfl⟩
 rw [← hG] at hrz hGn ⊢
 have hG63:G≤9223372036854775807:=by
  have:=grownCap_le_maxLen w n 0 3 (by unfold maxLen;omega)
  rw [← hG] at this
  unfold maxLen at this
  omega
 clear hold hG
 go_enter Tryz.func161,Tryz.ntmps161
 go_wp2_with (at_builtin;refine Lib.wpList_append_run _ rfl _ _ _ _ rfl _ _ rfl rfl _ _ (hrz _) ?_)
 go_ret
 exact ⟨rfl,rfl⟩
theorem grow0_w (w:World):Calls Tryz.prog 161 #[.slice none 0 0,.int .i64 0] w fun e w'=>e = .returned (.slice none 0 0)∧w'=w:=by
 go_enter Tryz.func161,Tryz.ntmps161
 go_wp2
 go_ret
 exact ⟨rfl,rfl⟩
theorem grow20_w (w:World):Calls Tryz.prog 202 #[.slice none 0 0,.int .i64 0] w fun e w'=>e = .returned (.slice none 0 0)∧w'=w:=by
 go_enter Tryz.func202,Tryz.ntmps202
 go_wp2
 go_ret
 exact ⟨rfl,rfl⟩
theorem grw_ok:∀ avs Lh nx v L' nx',grwE avs Lh nx=some (v,L',nx')→∀ ρ,ACalls Tryz.prog 161 (inAs ρ avs) (inH ρ Lh) (fun av Lo=>∃ ρ',Ext nx nx' ρ ρ'∧av=inA ρ' v∧Lo=inH ρ' L'):=by
 intro avs Lh nx v L' nx' h ρ
 unfold grwE at h
 split at h
 ·split at h
  ·rename_i n
   split at h
   ·rename_i hn0
    cases h
    have hn:n≤1000000000:=Nat.le_of_ble_eq_true hn0
    intro c vs hc hL0 hs hv
    simp only [inAs,inA,VRt,VR,VD] at hv
    obtain ⟨u0,r0,hvs,rfl,u1,r1,rfl,rfl,rfl⟩:=hv
    have hvs':vs = #[.slice none 0 0,.int .i64 n]:=by rw [← Array.toArray_toList (xs:=vs),hvs];rfl
    rw [hvs']
    rcases Nat.eq_zero_or_pos n with rfl|hpos
    ·refine (grow0_w c.w0).mono ?_
     rintro e w' ⟨rfl,rfl⟩
     exact row_post hc hs (by exact ⟨by decide,by kernel_rfl⟩) (owns_nil _ _ _) (Below.refl _ _)
    ·refine (grow_w n c.w0 hpos hn).mono ?_
     rintro e w' ⟨rfl,rfl⟩
     have hsz:∀ k,(Builtin.zeroCells (Value.int .i64 0).cells k).size=k:=fun k=>by
      have:=congrArg List.length (zeroCells_flat (Value.int .i64 0).cells k)
      rw [Array.length_toList,List.length_flatten] at this
      simp [Value.cells] at this
      exact this
     have hge:n≤grownCap c.w0 n 0 3:=grownCap_ge _ _ _ _
     have hle:=grownCap_le_maxLen c.w0 n 0 3 (by unfold maxLen;omega)
     obtain ⟨hs3,hle3⟩:=hs.newRow hc ((Keeps.drew c.w0).trans (Keeps.alloc c.w0.drew (.cells (#[]++Builtin.zeroCells (Value.int .i64 0).cells n++Builtin.zeroCells (Value.int .i64 0).cells (grownCap c.w0 n 0 3 - n)) 3))) (e:=3) (n:=1) (cap:=grownCap c.w0 n 0 3) (xs:=[]) false (by exact ⟨by decide,by kernel_rfl⟩) (by simp) (heap_alloc_new c.w0.drew _) (by rw [Array.size_append,Array.size_append,hsz,hsz];simp;omega) (Nat.zero_le _) hle (by simp [VDs,Cs])
     refine ⟨_,.arr (inH ρ Lh).length,_,_,rfl,⟨ρ,Ext.refl ..,?_,?_⟩,hs3,?_⟩
     ·show AV.arr _=AV.arr (hN Lh)
      rw [inH_len]
     ·rw [inH_psh];rfl
     simp only [VR]
     refine ⟨.row 3 1 [] false,by simp,?_⟩
     simp only [arRel,Eupd,if_true]
     exact ⟨_,_,rfl,heap_alloc_new c.w0.drew _,by rw [Array.size_append,Array.size_append,hsz,hsz];simp;omega⟩
   ·cases h
  ·cases h
 ·cases h
theorem grw0_ok:∀ avs Lh nx v L' nx',grw0E avs Lh nx=some (v,L',nx')→∀ ρ,ACalls Tryz.prog 202 (inAs ρ avs) (inH ρ Lh) (fun av Lo=>∃ ρ',Ext nx nx' ρ ρ'∧av=inA ρ' v∧Lo=inH ρ' L'):=by
 intro avs Lh nx v L' nx' h ρ
 unfold grw0E at h
 split at h
 ·split at h
  ·rename_i n
   split at h
   ·rename_i hn0
    cases h
    obtain rfl:=Nat.eq_of_beq_eq_true hn0
    intro c vs hc hL0 hs hv
    simp only [inAs,inA,VRt,VR,VD] at hv
    obtain ⟨u0,r0,hvs,rfl,u1,r1,rfl,rfl,rfl⟩:=hv
    have hvs':vs = #[.slice none 0 0,.int .i64 0]:=by rw [← Array.toArray_toList (xs:=vs),hvs];rfl
    rw [hvs']
    refine (grow20_w c.w0).mono ?_
    rintro e w' ⟨rfl,rfl⟩
    exact ⟨_,.d .nils,_,_,rfl,⟨ρ,Ext.refl ..,rfl,rfl⟩,hs,by simp [VR,VD]⟩
   ·cases h
  ·cases h
 ·cases h
end Go.Proofs.YtgkhgapkfnkagaaGreatDoor
