/- PrimaryStrange: for every argument the law returns true, and its argument reads behind the call as it read before. No condition of ours. -/
import Derived.Test.YtolkmjfkkkiboaaGreatPrimaryStrangeCodU
import Derived.Test.YtolkmjfkkkiboaaGreatRows
set_option linter.unusedVariables false
set_option linter.unusedSimpArgs false
namespace Go.Proofs.YtolkmjfkkkiboaaGreat
open Go.Ab Go.RowKit Go.MapKept
attribute [local irreducible] ACalls AW ADraw Into fltB fnear
set_option maxRecDepth 100000
theorem cut_in {K G:Prop} (main:K→G) (tail:K):G:=main tail
def hcel (c:Cert):List AV:=[.d (.int .i64 c.author),.d (.int .i64 c.round),.d (.sl 1 (nums c.bats)),.d (.sl 1 (nums c.pars))]
def stL (p:Prim) (a:Act) (b:Bool) (h:List AV):AF×List AB:=([(2,.ptr 0 0),(3,.ptr 1 0),(4,.ptr 2 0),(6,.ptr 3 0),(7,.d (.bool b)),(10,.ptr 4 0),(14,.ptr 5 0)],[.cells (p.cs.map AV.d),.cells (a.cs.map AV.d),.cells zPrim,.cells (p.cs.map AV.d),.cells zPrim,.cells h])
def stH (p:Prim) (a:Act) (b:Bool) (h:Cert):AF×List AB:=stL p a b (hcel h)
def stZ (p:Prim) (a:Act) (b:Bool):AF×List AB:=stL p a b [.d (.int .i64 0),.d (.int .i64 0),.d .nils,.d .nils]
open Classical in
structure invH (p:Prim) (s:Bool×Cert):Prop where
 may:decide (May p)=s.1
 bats:s.2.bats.length≤200000
 pars:s.2.pars.length≤200000
 sigs:s.2.sigs=[]
theorem eqPH_ok (p:Prim) (h:p.ok) (hd:few p.dag.certs∧∀ c∈p.dag.certs,fewL c) (hl:few p.late∧∀ c∈p.late,fewL c) (hv:few p.votes) (ha:few p.acks) (hm:few p.mine.bats∧few p.mine.pars) (lo n b k:Nat) :
  ACalls Tryz.prog 45 [p.ai 0,p.av] [.isle lo n (.hole b k false)] (fun av L=>av = .d (.bool true)∧L=[.isle lo n (.hole b k false)]) :=
 acalls_lend (flat_bool _) ⟨_,_,rfl,lend_ak rfl (fun _ _=>rfl) p,_,_,rfl,lend_av p,rfl⟩ (eqPrim_same p h hd hl hv ha hm)
theorem eqPZh_ok (lo n b k:Nat):ACalls Tryz.prog 45 [zP.ai 0,.agg (zRow 0)] (.isle lo n (.hole b k false) :: zRows) (fun av L=>av = .d (.bool true)∧L = .isle lo n (.hole b k false) :: zRows) :=
 acalls_lend (flat_bool _) ⟨_,_,rfl,lend_ak rfl (fun _ _=>rfl) zP,_,_,rfl,.inr ⟨_,_,rfl,rfl,lendS_c (l1_d _) (lendS_c (l1_d _) (lendS_c (l1_d _) (lendS_c (l1_d _) (lendS_c (l1_d _) (lendS_c (l1_d _) (lendS_c (l1_d _) (lendS_c (l1_row rfl) (lendS_c (l1_row rfl) (lendS_c (l1_d _) (lendS_c (l1_row rfl) (lendS_c (l1_row rfl) (lendS_c (l1_d _) (lendS_c (l1_d _) (lendS_c (l1_row rfl) (lendS_c (l1_row rfl) lendS_n)))))))))))))))⟩,rfl⟩ (eqPrim_same zP zP_ok ⟨Nat.zero_le _,fun _ h=>by cases h⟩ ⟨Nat.zero_le _,fun _ h=>by cases h⟩ (Nat.zero_le _) (Nat.zero_le _) ⟨Nat.zero_le _,Nat.zero_le _⟩)
theorem eqMH_ok (l:List Msg) (hl:few l) (h:∀ m∈l,m.nice) (lo n b k:Nat):ACalls Tryz.prog 61 [.isl 0 (.sl 18 (msgsD l)),.arr 1] [.isle lo n (.hole b k false),.row 49 18 (msgsD l) false]
  (fun av L=>av = .d (.bool true)∧L=[.isle lo n (.hole b k false),.row 49 18 (msgsD l) false]) :=
 acalls_lend (flat_bool _) ⟨_,_,rfl,.inl (l1_isk rfl _ rfl),_,_,rfl,.inl (.inr (.inl ⟨1,_,_,_,_,rfl,rfl,rfl⟩)),rfl⟩ (eqMsgs_same l hl fun m hm=>⟨(h m hm).fine,(h m hm).txs⟩)
theorem l1_hole {L:List AB} {lo n b k:Nat} (h:L[0]? = some (.isle lo n (.hole b k true))) (l:List Int):lend1 L (.isl 0 (.slo 1 (ints l))) (.d (.sl 1 (nums l))) := .inr (.inr (.inr (.inr (.inr ⟨0,_,_,lo,n,_,rfl,h,rfl,rfl,up_nums l⟩))))
theorem eqN_same (l:List Int) (hl:few l):ACalls Tryz.prog 46 [.d (.sl 1 (nums l)),.d (.sl 1 (nums l))] [] (fun av L=>av = .d (.bool true)∧L=[]):=by
 have h:=eqNumbers_ok l l hl
 rw [decide_eq_true rfl] at h
 exact h
theorem eqNH_ok (l:List Int) (hl:few l) (lo n b k:Nat):ACalls Tryz.prog 46 [.isl 0 (.slo 1 (ints l)),.d (.sl 1 (nums l))] [.isle lo n (.hole b k true)] (fun av L=>av = .d (.bool true)∧L=[.isle lo n (.hole b k true)]) :=
 acalls_lend (flat_bool _) ⟨_,_,rfl,.inl (l1_hole rfl l),_,_,rfl,.inl (.inl ⟨_,rfl,rfl⟩),rfl⟩ (eqN_same l hl)
theorem eqNE_ok (lo n b k:Nat):ACalls Tryz.prog 46 [.isl 0 (.slo 1 (ints [])),.arr 1] [.isle lo n (.hole b k true),.row 3 1 [] false] (fun av L=>av = .d (.bool true)∧L=[.isle lo n (.hole b k true),.row 3 1 [] false]) :=
 acalls_lend (flat_bool _) ⟨_,_,rfl,.inl (l1_hole rfl []),_,_,rfl,.inl (.inr (.inl ⟨1,_,_,_,_,rfl,rfl,rfl⟩)),rfl⟩ (eqN_same [] (Nat.zero_le _))
theorem numH_ok (l:List Int) (lo n b k:Nat):ACalls Tryz.prog 50 [.isl 0 (.slo 1 (ints l))] [.isle lo n (.hole b k true)] (fun av L=>av = .tup []∧L=[.isle lo n (.hole b k false)]) :=
 acalls_hole fun w v hn hv=>numbers_sp b k 2 w v hv hn
set_option maxHeartbeats 16000000 in
open Classical in
theorem step13_ok (p:Prim) (hok:p.ok) (ht:p.tiny) (hf:p.fitS) (hdl:p.dag.certs.length≤1000) (hr:p.dag.certs.length+p.late.length<60000) (hg:p.gh) (a:Act) (h0:a.doo=1∨a.doo=3) (hal:a.l.length≤1000) (hah:a.h.bats.length≤200000∧a.h.pars.length≤200000) :
  ACalls Tryz.prog 19 [p.av,.agg (a.cs.map AV.d)] [] (fun av L=>(∃ q:Prim,av = .tup [q.av,.d (.bool true)])∧L=[]):=by
 have hlf:few a.l:=by unfold few;omega
 have h1:=copyPrim_ok p ht
 have h2:=rMay20_ok p hok
 have h4:=copyNumbers_ok a.l (by unfold tiny;omega)
 have h5:=make_full p hok (by omega) a.l hlf
 have hfd:few p.dag.certs∧∀ c∈p.dag.certs,fewL c:=⟨by have:=hf.dag.1;unfold few;omega,fun c hc=>fit_few (hf.dag.2 c hc)⟩
 have hfl:few p.late∧∀ c∈p.late,fewL c:=⟨by have:=hf.late.1;unfold few;omega,fun c hc=>fit_few (hf.late.2 c hc)⟩
 have hv:few p.votes:=by have:=hf.votes;unfold few;omega
 have ha:few p.acks:=by have:=hf.acks;unfold few;omega
 have hmm:few p.mine.bats∧few p.mine.pars:=⟨by have:=hf.bats;unfold few;omega,by have:=hf.pars;unfold few;omega⟩
 have h6:=eqPrim_same p hok hfd hfl hv ha hmm
 have h7:=eqNumbers_ok a.l a.l hlf
 rw [decide_eq_true rfl] at h7
 have hw3:=within_ok a.doo 10 (by decide) (by decide) (by rcases h0 with h0|h0<;>rw [h0]<;>decide)
 have hd3:a.doo % 18446744073709551616 % 10=1∨a.doo % 18446744073709551616 % 10=3:=by rcases h0 with h0|h0<;>rw [h0]<;>decide
 apply cut_in
 case main =>
  intro key
  have h3:=hw3
  have hd2:=hd3
  obtain ⟨dd,hdd⟩:∃ dd,a.doo % 18446744073709551616 % 10=dd:=⟨_,rfl⟩
  rw [hdd] at h3 hd2
  clear hdd
  obtain ⟨b,hb⟩:∃ b,decide (May p)=b:=⟨_,rfl⟩
  refine acalls_cut ttOk zOk foOk 8 Tryz.func19 rfl Tryz.ntmps19 rfl false rfl ?_
  conv=>whnf
  refine h1.mono ?_
  rintro _ _ ⟨rfl,rfl⟩
  conv=>whnf
  refine rdw ?_;repeat' ((with_reducible apply tw)<;>intro _)
  refine h2.mono ?_
  rintro _ _ ⟨rfl,rfl⟩
  rw [hb]
  conv=>whnf
  refine rdw ?_;repeat' ((with_reducible apply tw)<;>intro _)
  refine h3.mono ?_
  rintro _ _ ⟨rfl,rfl⟩
  rcases hd2 with rfl|rfl
  all_goals
   conv=>whnf
   refine rdw ?_;repeat' ((with_reducible apply tw)<;>intro _)
   refine aw_seq (aw_seq (AW_go ttOk zOk foOk ?_))
   conv=>whnf
   refine ⟨rfl,?_⟩
   refine aw_block (aw_seqr (AW_go ttOk zOk foOk ?_))
   conv=>whnf
   refine rdw ?_;repeat' ((with_reducible apply tw)<;>intro _)
   refine aw_cond ?_
   conv=>whnf
   refine aw_seqr (AW_go ttOk zOk foOk ?_)
   conv=>whnf
   cases b with
   | false =>
     have k1:¬May p:=of_decide_eq_false hb
     refine aw_seqr (AW_go ttOk zOk foOk ?_)
     conv=>whnf
     refine rdw ?_;repeat' ((with_reducible apply tw)<;>intro _)
     refine aw_seqr (AW_go ttOk zOk foOk ?_)
     conv=>whnf
     refine rdw ?_;repeat' ((with_reducible apply tw)<;>intro _)
     (refine (h4).mono ?_;rintro _ _ ⟨rfl,rfl⟩;(conv=>whnf))
     refine rdw ?_;repeat' ((with_reducible apply tw)<;>intro _)
     refine aw_seqr (AW_go ttOk zOk foOk ?_)
     conv=>whnf
     refine rdw ?_;repeat' ((with_reducible apply tw)<;>intro _)
     refine h5.mono ?_
     rintro _ _ ⟨⟨k,_⟩|⟨k,_⟩|⟨_,rfl⟩,rfl⟩
     ·exact absurd k.1 k1
     ·exact absurd k.1 k1
     conv=>whnf
     refine rdw ?_;repeat' ((with_reducible apply tw)<;>intro _)
     refine aw_seqr (AW_go ttOk zOk foOk ?_)
     conv=>whnf
     refine rdw ?_;repeat' ((with_reducible apply tw)<;>intro _)
     (refine (num20_ok 1).mono ?_;rintro _ _ ⟨rfl,rfl⟩;(conv=>whnf))
     refine rdw ?_;repeat' ((with_reducible apply tw)<;>intro _)
     (refine (eqHeaderN).mono ?_;rintro _ _ ⟨rfl,rfl⟩;(conv=>whnf))
     refine rdw ?_;repeat' ((with_reducible apply tw)<;>intro _)
     (refine (h6).mono ?_;rintro _ _ ⟨rfl,rfl⟩;(conv=>whnf))
     refine rdw ?_;repeat' ((with_reducible apply tw)<;>intro _)
     (refine (h7).mono ?_;rintro _ _ ⟨rfl,rfl⟩;(conv=>whnf))
     refine rdw ?_;repeat' ((with_reducible apply tw)<;>intro _)
     refine aw_seqr (AW_go ttOk zOk foOk ?_)
     conv=>whnf
     refine rdw ?_;repeat' ((with_reducible apply tw)<;>intro _)
     (refine (spoilH_nil).mono ?_;rintro _ _ ⟨rfl,rfl⟩;(conv=>whnf))
     refine rdw ?_;repeat' ((with_reducible apply tw)<;>intro _)
     refine aw_seqr (AW_go ttOk zOk foOk ?_)
     conv=>whnf
     refine rdw ?_;repeat' ((with_reducible apply tw)<;>intro _)
     refine aw_seqr (AW_go ttOk zOk foOk ?_)
     conv=>whnf
     refine rdw ?_;repeat' ((with_reducible apply tw)<;>intro _)
     first
      | (refine aw_at (σ:=Unit) (fun _=>stZ p a false) (fun _=>True) [2,3,4,6,7,10,14] ?_ (fun _ _=>aw_nilsL [(5,2,1),(5,3,1)] rfl ((key:∀ s:Bool×Cert,invH p s→AW _ _ _ _ _ (stH p a s.1 s.2).1 (stH p a s.1 s.2).2) (false,cz0) ⟨hb,Nat.zero_le _,Nat.zero_le _,rfl⟩))
         focus (conv=>whnf
                exact ⟨(),rfl,rfl,trivial⟩))
      | (refine aw_at (σ:=Unit) (fun _=>stH p a false (hdr a.h)) (fun _=>True) [2,3,4,6,7,10,14] ?_ (fun _ _=>(key:∀ s:Bool×Cert,invH p s→AW _ _ _ _ _ (stH p a s.1 s.2).1 (stH p a s.1 s.2).2) (false,hdr a.h) ⟨hb,hah.1,hah.2,rfl⟩)
         focus (conv=>whnf
                exact ⟨(),rfl,rfl,trivial⟩))
   | true =>
     have k1:May p:=of_decide_eq_true hb
     have h8:=rMake_ok p k1 (by omega) ht.dag.2 a.l hlf
     refine aw_seqr (AW_go ttOk zOk foOk ?_)
     conv=>whnf
     refine rdw ?_;repeat' ((with_reducible apply tw)<;>intro _)
     refine h8.mono ?_
     rintro _ _ ⟨⟨k2,rfl⟩|⟨k2,k3,rfl⟩|⟨k2,k3,rfl⟩,rfl⟩
     ·conv=>whnf
      refine rdw ?_;repeat' ((with_reducible apply tw)<;>intro _)
      refine aw_seqr (AW_go ttOk zOk foOk ?_)
      conv=>whnf
      refine rdw ?_;repeat' ((with_reducible apply tw)<;>intro _)
      (refine (h4).mono ?_;rintro _ _ ⟨rfl,rfl⟩;(conv=>whnf))
      refine rdw ?_;repeat' ((with_reducible apply tw)<;>intro _)
      refine aw_seqr (AW_go ttOk zOk foOk ?_)
      conv=>whnf
      refine rdw ?_;repeat' ((with_reducible apply tw)<;>intro _)
      refine h5.mono ?_
      rintro _ _ ⟨⟨k,_⟩|⟨k,_⟩|⟨_,rfl⟩,rfl⟩
      ·rw [k2] at k
       exact absurd k.2 (by decide)
      ·rw [k2] at k
       exact absurd k.2 (by decide)
      conv=>whnf
      refine rdw ?_;repeat' ((with_reducible apply tw)<;>intro _)
      refine aw_seqr (AW_go ttOk zOk foOk ?_)
      conv=>whnf
      refine rdw ?_;repeat' ((with_reducible apply tw)<;>intro _)
      (refine (num20_ok 1).mono ?_;rintro _ _ ⟨rfl,rfl⟩;(conv=>whnf))
      refine rdw ?_;repeat' ((with_reducible apply tw)<;>intro _)
      (refine (eqHeaderN).mono ?_;rintro _ _ ⟨rfl,rfl⟩;(conv=>whnf))
      refine rdw ?_;repeat' ((with_reducible apply tw)<;>intro _)
      (refine (h6).mono ?_;rintro _ _ ⟨rfl,rfl⟩;(conv=>whnf))
      refine rdw ?_;repeat' ((with_reducible apply tw)<;>intro _)
      (refine (h7).mono ?_;rintro _ _ ⟨rfl,rfl⟩;(conv=>whnf))
      refine rdw ?_;repeat' ((with_reducible apply tw)<;>intro _)
      refine aw_seqr (AW_go ttOk zOk foOk ?_)
      conv=>whnf
      refine rdw ?_;repeat' ((with_reducible apply tw)<;>intro _)
      (refine (spoilH_nil).mono ?_;rintro _ _ ⟨rfl,rfl⟩;(conv=>whnf))
      refine rdw ?_;repeat' ((with_reducible apply tw)<;>intro _)
      refine aw_seqr (AW_go ttOk zOk foOk ?_)
      conv=>whnf
      refine rdw ?_;repeat' ((with_reducible apply tw)<;>intro _)
      refine aw_seqr (AW_go ttOk zOk foOk ?_)
      conv=>whnf
      refine rdw ?_;repeat' ((with_reducible apply tw)<;>intro _)
      first
       | (refine aw_at (σ:=Unit) (fun _=>stZ p a true) (fun _=>True) [2,3,4,6,7,10,14] ?_ (fun _ _=>aw_nilsL [(5,2,1),(5,3,1)] rfl ((key:∀ s:Bool×Cert,invH p s→AW _ _ _ _ _ (stH p a s.1 s.2).1 (stH p a s.1 s.2).2) (true,cz0) ⟨hb,Nat.zero_le _,Nat.zero_le _,rfl⟩))
          focus (conv=>whnf
                 exact ⟨(),rfl,rfl,trivial⟩))
       | (refine aw_at (σ:=Unit) (fun _=>stH p a true (hdr a.h)) (fun _=>True) [2,3,4,6,7,10,14] ?_ (fun _ _=>(key:∀ s:Bool×Cert,invH p s→AW _ _ _ _ _ (stH p a s.1 s.2).1 (stH p a s.1 s.2).2) (true,hdr a.h) ⟨hb,hah.1,hah.2,rfl⟩)
          focus (conv=>whnf
                 exact ⟨(),rfl,rfl,trivial⟩))
     ·conv=>whnf
      refine rdw ?_;repeat' ((with_reducible apply tw)<;>intro _)
      refine aw_seqr (AW_go ttOk zOk foOk ?_)
      conv=>whnf
      refine rdw ?_;repeat' ((with_reducible apply tw)<;>intro _)
      (refine (h4).mono ?_;rintro _ _ ⟨rfl,rfl⟩;(conv=>whnf))
      refine rdw ?_;repeat' ((with_reducible apply tw)<;>intro _)
      refine aw_seqr (AW_go ttOk zOk foOk ?_)
      conv=>whnf
      refine rdw ?_;repeat' ((with_reducible apply tw)<;>intro _)
      refine h5.mono ?_
      rintro _ _ ⟨⟨_,k,_⟩|⟨_,_,rfl⟩|⟨k,_⟩,rfl⟩
      ·rw [k3] at k
       exact absurd k (by decide)
      ·conv=>whnf
       refine rdw ?_;repeat' ((with_reducible apply tw)<;>intro _)
       refine aw_seqr (AW_go ttOk zOk foOk ?_)
       conv=>whnf
       refine rdw ?_;repeat' ((with_reducible apply tw)<;>intro _)
       (refine (num20_ok 10).mono ?_;rintro _ _ ⟨rfl,rfl⟩;(conv=>whnf))
       refine rdw ?_;repeat' ((with_reducible apply tw)<;>intro _)
       (refine (eqHeaderN).mono ?_;rintro _ _ ⟨rfl,rfl⟩;(conv=>whnf))
       refine rdw ?_;repeat' ((with_reducible apply tw)<;>intro _)
       (refine (h6).mono ?_;rintro _ _ ⟨rfl,rfl⟩;(conv=>whnf))
       refine rdw ?_;repeat' ((with_reducible apply tw)<;>intro _)
       (refine (h7).mono ?_;rintro _ _ ⟨rfl,rfl⟩;(conv=>whnf))
       refine rdw ?_;repeat' ((with_reducible apply tw)<;>intro _)
       refine aw_seqr (AW_go ttOk zOk foOk ?_)
       conv=>whnf
       refine rdw ?_;repeat' ((with_reducible apply tw)<;>intro _)
       (refine (spoilH_nil).mono ?_;rintro _ _ ⟨rfl,rfl⟩;(conv=>whnf))
       refine rdw ?_;repeat' ((with_reducible apply tw)<;>intro _)
       refine aw_seqr (AW_go ttOk zOk foOk ?_)
       conv=>whnf
       refine rdw ?_;repeat' ((with_reducible apply tw)<;>intro _)
       refine aw_seqr (AW_go ttOk zOk foOk ?_)
       conv=>whnf
       refine rdw ?_;repeat' ((with_reducible apply tw)<;>intro _)
       first
        | (refine aw_at (σ:=Unit) (fun _=>stZ p a true) (fun _=>True) [2,3,4,6,7,10,14] ?_ (fun _ _=>aw_nilsL [(5,2,1),(5,3,1)] rfl ((key:∀ s:Bool×Cert,invH p s→AW _ _ _ _ _ (stH p a s.1 s.2).1 (stH p a s.1 s.2).2) (true,cz0) ⟨hb,Nat.zero_le _,Nat.zero_le _,rfl⟩))
           focus (conv=>whnf
                  exact ⟨(),rfl,rfl,trivial⟩))
        | (refine aw_at (σ:=Unit) (fun _=>stH p a true (hdr a.h)) (fun _=>True) [2,3,4,6,7,10,14] ?_ (fun _ _=>(key:∀ s:Bool×Cert,invH p s→AW _ _ _ _ _ (stH p a s.1 s.2).1 (stH p a s.1 s.2).2) (true,hdr a.h) ⟨hb,hah.1,hah.2,rfl⟩)
           focus (conv=>whnf
                  exact ⟨(),rfl,rfl,trivial⟩))
      ·exact absurd ⟨k1,k2⟩ k
     ·have h9:=make_row p hok (by omega) a.l hlf k1 k2 k3
      have e1:(sortI (batsF a.l)).length≤8:=by rw [sortI,List.length_mergeSort];exact batsF_len _
      have e2:(sortI (parsF p)).length≤100000:=by
       rw [sortI,List.length_mergeSort,parsF,List.length_map,ofR]
       have:=List.length_filter_le (fun c:Cert=>decide (c.round=p.round - 1)) p.dag.certs
       omega
      have h10:=eqHeaderA (headC p a.l) ⟨few_le 8 e1,few_le 100000 e2⟩
      have h11:=spoilH_ok p.id p.round (sortI (batsF a.l)) (sortI (parsF p)) (by omega) (by omega)
      conv=>whnf
      refine rdw ?_;repeat' ((with_reducible apply tw)<;>intro _)
      refine aw_seqr (AW_go ttOk zOk foOk ?_)
      conv=>whnf
      refine rdw ?_;repeat' ((with_reducible apply tw)<;>intro _)
      (refine (h4).mono ?_;rintro _ _ ⟨rfl,rfl⟩;(conv=>whnf))
      refine rdw ?_;repeat' ((with_reducible apply tw)<;>intro _)
      refine aw_seqr (AW_go ttOk zOk foOk ?_)
      conv=>whnf
      refine rdw ?_;repeat' ((with_reducible apply tw)<;>intro _)
      (refine (h9).mono ?_;rintro _ _ ⟨rfl,rfl⟩;(conv=>whnf))
      refine rdw ?_;repeat' ((with_reducible apply tw)<;>intro _)
      refine aw_seqr (AW_go ttOk zOk foOk ?_)
      conv=>whnf
      refine rdw ?_;repeat' ((with_reducible apply tw)<;>intro _)
      (refine (num20_ok 0).mono ?_;rintro _ _ ⟨rfl,rfl⟩;(conv=>whnf))
      refine rdw ?_;repeat' ((with_reducible apply tw)<;>intro _)
      (refine (h10).mono ?_;rintro _ _ ⟨rfl,rfl⟩;(conv=>whnf))
      refine rdw ?_;repeat' ((with_reducible apply tw)<;>intro _)
      (refine (h6).mono ?_;rintro _ _ ⟨rfl,rfl⟩;(conv=>whnf))
      refine rdw ?_;repeat' ((with_reducible apply tw)<;>intro _)
      (refine (h7).mono ?_;rintro _ _ ⟨rfl,rfl⟩;(conv=>whnf))
      refine rdw ?_;repeat' ((with_reducible apply tw)<;>intro _)
      refine aw_seqr (AW_go ttOk zOk foOk ?_)
      conv=>whnf
      refine rdw ?_;repeat' ((with_reducible apply tw)<;>intro _)
      (refine (h11).mono ?_;rintro _ _ ⟨rfl,rfl⟩;(conv=>whnf))
      refine rdw ?_;repeat' ((with_reducible apply tw)<;>intro _)
      refine aw_seqr (AW_go ttOk zOk foOk ?_)
      conv=>whnf
      refine rdw ?_;repeat' ((with_reducible apply tw)<;>intro _)
      refine aw_seqr (AW_go ttOk zOk foOk ?_)
      conv=>whnf
      refine rdw ?_;repeat' ((with_reducible apply tw)<;>intro _)
      first
       | (refine aw_at (σ:=Unit) (fun _=>stH p a true (headC p a.l)) (fun _=>True) [2,3,4,6,7,10,14] ?_ (fun _ _=>(key:∀ s:Bool×Cert,invH p s→AW _ _ _ _ _ (stH p a s.1 s.2).1 (stH p a s.1 s.2).2) (true,headC p a.l) ⟨hb,by show (sortI (batsF a.l)).length≤_;omega,by show (sortI (parsF p)).length≤_;omega,rfl⟩)
          focus (conv=>whnf
                 exact ⟨(),rfl,rfl,trivial⟩))
       | (refine aw_at (σ:=Unit) (fun _=>stH p a true (hdr a.h)) (fun _=>True) [2,3,4,6,7,10,14] ?_ (fun _ _=>(key:∀ s:Bool×Cert,invH p s→AW _ _ _ _ _ (stH p a s.1 s.2).1 (stH p a s.1 s.2).2) (true,hdr a.h) ⟨hb,hah.1,hah.2,rfl⟩)
          focus (conv=>whnf
                 exact ⟨(),rfl,rfl,trivial⟩))
 case tail =>
  rintro s ⟨hb,hbl,hpl,hsg⟩
  have hht:s.2.tiny:=⟨by unfold tiny;omega,by unfold tiny;omega,by rw [hsg];exact Nat.zero_le _⟩
  have hhf:fewL s.2:=⟨by unfold few;omega,by unfold few;omega,by rw [hsg];exact Nat.zero_le _⟩
  have hcph:=copyHeader_ok s.2 hht
  have heqh:=eqHeader_same s.2 hhf
  have hpi:=proposedI_ok p hok hr hf.bats s.2 hhf hht a.d
  obtain ⟨b,h⟩:=s
  dsimp only at hb hbl hpl hsg hht hhf hcph heqh hpi ⊢
  refine AW_go ttOk zOk foOk ?_
  conv=>whnf
  cases b with
  | false =>
    have k1:¬May p:=of_decide_eq_false hb
    have e:proE p h a.d=1:=proE_1 fun hh=>k1 hh.may
    rw [e] at hpi
    refine rdw ?_;repeat' ((with_reducible apply tw)<;>intro _)
    (refine (hcph).mono ?_;rintro _ _ ⟨rfl,rfl⟩;(conv=>whnf))
    refine rdw ?_;repeat' ((with_reducible apply tw)<;>intro _)
    refine hpi.mono ?_
    rintro _ _ ⟨⟨e0,_⟩|⟨_,rfl⟩,lo,n,hb1,hk1,rfl⟩
    ·exact absurd e0 (by decide)
    have hsP:=spoilP_ok zP zP_fit lo n (.hole hb1 hk1 false)
    have hsM:=spoilM_ok [] (Nat.zero_le _) (fun _ h=>by cases h) lo n false
    have heP:=eqPZh_ok lo n hb1 hk1
    have heM:=eqMH_ok [] (Nat.zero_le _) (fun _ h=>by cases h) lo n hb1 hk1
    conv=>whnf
    refine rdw ?_;repeat' ((with_reducible apply tw)<;>intro _)
    (refine Or.inr ?_;(conv=>whnf))
    (refine (eqNE_ok lo n hb1 hk1).mono ?_;rintro _ _ ⟨rfl,rfl⟩;(conv=>whnf))
    refine rdw ?_;repeat' ((with_reducible apply tw)<;>intro _)
    (refine (heqh).mono ?_;rintro _ _ ⟨rfl,rfl⟩;(conv=>whnf))
    refine rdw ?_;repeat' ((with_reducible apply tw)<;>intro _)
    (refine (numH_ok [] lo n hb1 hk1).mono ?_;rintro _ _ ⟨rfl,rfl⟩;(conv=>whnf))
    refine rdw ?_;repeat' ((with_reducible apply tw)<;>intro _)
    refine ⟨rfl,AW_go ttOk zOk foOk ?_⟩
    conv=>whnf
    refine rdw ?_;repeat' ((with_reducible apply tw)<;>intro _)
    ((with_reducible refine draw_pl ttOk zOk foOk mixedOk pl19x54 ?_ ?_);(focus kernel_rfl);(conv=>whnf))
    refine rdw ?_;repeat' ((with_reducible apply tw)<;>intro _)
    (refine (num20_ok 1).mono ?_;rintro _ _ ⟨rfl,rfl⟩;(conv=>whnf))
    refine rdw ?_;repeat' ((with_reducible apply tw)<;>intro _)
    (refine (heP).mono ?_;rintro _ _ ⟨rfl,rfl⟩;(conv=>whnf))
    refine rdw ?_;repeat' ((with_reducible apply tw)<;>intro _)
    (refine Or.inr ?_;(conv=>whnf))
    (refine (heM).mono ?_;rintro _ _ ⟨rfl,rfl⟩;(conv=>whnf))
    refine rdw ?_;repeat' ((with_reducible apply tw)<;>intro _)
    (refine (h6).mono ?_;rintro _ _ ⟨rfl,rfl⟩;(conv=>whnf))
    refine rdw ?_;repeat' ((with_reducible apply tw)<;>intro _)
    (refine (hsP).mono ?_;rintro _ _ ⟨rfl,rfl⟩;(conv=>whnf))
    refine rdw ?_;repeat' ((with_reducible apply tw)<;>intro _)
    (refine (hsM).mono ?_;rintro _ _ ⟨rfl,rfl⟩;(conv=>whnf))
    refine rdw ?_;repeat' ((with_reducible apply tw)<;>intro _)
    ((with_reducible refine draw_pl ttOk zOk foOk mixedOk pl19x58 ?_ ?_);(focus kernel_rfl);(conv=>whnf))
    repeat' (first|(first|((with_reducible first|apply rd_intro|apply gd_and);(focus ((conv=>whnf)<;>first|rfl|(intro K hK;(conv=>whnf);first|exact hK|exact z_wrap (by omega) hK)));conv=>whnf)|((with_reducible apply z_wrap);(focus omega);conv=>whnf)|((with_reducible first|apply mt_dec|apply mt_eq|apply mt_ne|apply mt_not|apply mt_any)<;>(intro _;conv=>whnf)))|((with_reducible apply rd_intro);(focus (intro K hK;(conv=>whnf);refine h6.mono ?_;rintro _ _ ⟨rfl,rfl⟩;(conv=>whnf);exact hK));(conv=>whnf))|((with_reducible apply gd_and);(focus ((conv=>whnf);intro K hK;(conv=>whnf);refine h6.mono ?_;rintro _ _ ⟨rfl,rfl⟩;(conv=>whnf);exact hK));(conv=>whnf))|(refine (h6).mono ?_;rintro _ _ ⟨rfl,rfl⟩;(conv=>whnf))|fail)
    exact ⟨.inl rfl,⟨p,rfl⟩,rfl⟩
  | true =>
    have k1:May p:=of_decide_eq_true hb
    have hpg:=proposed20_ok p k1 hok ht hr h hhf hht a.d
    refine rdw ?_;repeat' ((with_reducible apply tw)<;>intro _)
    refine hpg.mono ?_
    rintro _ _ (⟨e0,pC,sC,rfl,j,rfl⟩|⟨he0,rfl,rfl⟩)
    ·have hq:=goes_say k1 hr pC sC
     have hqok:=may_ok hq.may (hq.gh hg)
     have hqf:=may_fit hq.may
     have hqd:few (sayP p h a.d).dag.certs∧∀ c∈(sayP p h a.d).dag.certs,fewL c:=⟨by have:=hqf.dag.1;unfold few;omega,fun c hc=>fit_few (hqf.dag.2 c hc)⟩
     have hql:few (sayP p h a.d).late∧∀ c∈(sayP p h a.d).late,fewL c:=⟨by have:=hqf.late.1;unfold few;omega,fun c hc=>fit_few (hqf.late.2 c hc)⟩
     have hqv:few (sayP p h a.d).votes:=by have:=hqf.votes;unfold few;omega
     have hqa:few (sayP p h a.d).acks:=by have:=hqf.acks;unfold few;omega
     have hqm:few (sayP p h a.d).mine.bats∧few (sayP p h a.d).mine.pars:=⟨by have:=hqf.bats;unfold few;omega,by have:=hqf.pars;unfold few;omega⟩
     have hol:=sayO_len k1 h a.d
     have hon:=sayO_nice k1 hr pC
     cases j
     all_goals
      conv=>whnf
      refine rdw ?_;repeat' ((with_reducible apply tw)<;>intro _)
      (refine (hcph).mono ?_;rintro _ _ ⟨rfl,rfl⟩;(conv=>whnf))
      refine rdw ?_;repeat' ((with_reducible apply tw)<;>intro _)
      refine hpi.mono ?_
      rintro _ _ ⟨⟨_,_,_,rfl⟩|⟨e1,_⟩,lo,n,hb1,hk1,rfl⟩
      rotate_left
      ·exact absurd e0 e1
      have hsP:=spoilP_ok (sayP p h a.d) hqf lo n (.hole hb1 hk1 false)
      have hsM:=spoilM_ok (sayO p h a.d) (by omega) (fun m hm=>(hon m hm).fit) lo n false
      have heP:=eqPH_ok (sayP p h a.d) hqok hqd hql hqv hqa hqm lo n hb1 hk1
      have heM:=eqMH_ok (sayO p h a.d) (few_le 100 hol) hon lo n hb1 hk1
      conv=>whnf
      refine rdw ?_;repeat' ((with_reducible apply tw)<;>intro _)
      (refine (eqNH_ok p.mine.bats hmm.1 lo n hb1 hk1).mono ?_;rintro _ _ ⟨rfl,rfl⟩;(conv=>whnf))
      refine rdw ?_;repeat' ((with_reducible apply tw)<;>intro _)
      (refine (heqh).mono ?_;rintro _ _ ⟨rfl,rfl⟩;(conv=>whnf))
      refine rdw ?_;repeat' ((with_reducible apply tw)<;>intro _)
      (refine (numH_ok p.mine.bats lo n hb1 hk1).mono ?_;rintro _ _ ⟨rfl,rfl⟩;(conv=>whnf))
      refine rdw ?_;repeat' ((with_reducible apply tw)<;>intro _)
      refine ⟨rfl,AW_go ttOk zOk foOk ?_⟩
      conv=>whnf
      refine rdw ?_;repeat' ((with_reducible apply tw)<;>intro _)
      ((with_reducible refine draw_pl ttOk zOk foOk mixedOk pl19x54 ?_ ?_);(focus kernel_rfl);(conv=>whnf))
      refine rdw ?_;repeat' ((with_reducible apply tw)<;>intro _)
      (refine (num20_ok 0).mono ?_;rintro _ _ ⟨rfl,rfl⟩;(conv=>whnf))
      refine rdw ?_;repeat' ((with_reducible apply tw)<;>intro _)
      (refine (heP).mono ?_;rintro _ _ ⟨rfl,rfl⟩;(conv=>whnf))
      refine rdw ?_;repeat' ((with_reducible apply tw)<;>intro _)
      (refine Or.inr ?_;(conv=>whnf))
      (refine (heM).mono ?_;rintro _ _ ⟨rfl,rfl⟩;(conv=>whnf))
      refine rdw ?_;repeat' ((with_reducible apply tw)<;>intro _)
      (refine (h6).mono ?_;rintro _ _ ⟨rfl,rfl⟩;(conv=>whnf))
      refine rdw ?_;repeat' ((with_reducible apply tw)<;>intro _)
      (refine (hsP).mono ?_;rintro _ _ ⟨rfl,rfl⟩;(conv=>whnf))
      refine rdw ?_;repeat' ((with_reducible apply tw)<;>intro _)
      (refine (hsM).mono ?_;rintro _ _ ⟨rfl,rfl⟩;(conv=>whnf))
      refine rdw ?_;repeat' ((with_reducible apply tw)<;>intro _)
      ((with_reducible refine draw_pl ttOk zOk foOk mixedOk pl19x59 ?_ ?_);(focus kernel_rfl);(conv=>whnf))
      repeat' (first|(first|((with_reducible first|apply rd_intro|apply gd_and);(focus ((conv=>whnf)<;>first|rfl|(intro K hK;(conv=>whnf);first|exact hK|exact z_wrap (by omega) hK)));conv=>whnf)|((with_reducible apply z_wrap);(focus omega);conv=>whnf)|((with_reducible first|apply mt_dec|apply mt_eq|apply mt_ne|apply mt_not|apply mt_any)<;>(intro _;conv=>whnf)))|((with_reducible apply rd_intro);(focus (intro K hK;(conv=>whnf);refine h6.mono ?_;rintro _ _ ⟨rfl,rfl⟩;(conv=>whnf);exact hK));(conv=>whnf))|((with_reducible apply gd_and);(focus ((conv=>whnf);intro K hK;(conv=>whnf);refine h6.mono ?_;rintro _ _ ⟨rfl,rfl⟩;(conv=>whnf);exact hK));(conv=>whnf))|(refine (h6).mono ?_;rintro _ _ ⟨rfl,rfl⟩;(conv=>whnf))|fail)
      exact ⟨.inl rfl,⟨sayP p h a.d,rfl⟩,rfl⟩
    ·obtain ⟨e,he⟩:∃ e,proE p h a.d=e:=⟨_,rfl⟩
     rw [he] at he0 hpi ⊢
     conv=>whnf
     refine rdw ?_;repeat' ((with_reducible apply tw)<;>intro _)
     (refine (hcph).mono ?_;rintro _ _ ⟨rfl,rfl⟩;(conv=>whnf))
     refine rdw ?_;repeat' ((with_reducible apply tw)<;>intro _)
     refine hpi.mono ?_
     rintro _ _ ⟨⟨e1,_⟩|⟨_,rfl⟩,lo,n,hb1,hk1,rfl⟩
     ·exact absurd e1 he0
     have hsP:=spoilP_ok zP zP_fit lo n (.hole hb1 hk1 false)
     have hsM:=spoilM_ok [] (Nat.zero_le _) (fun _ h=>by cases h) lo n false
     have heP:=eqPZh_ok lo n hb1 hk1
     have heM:=eqMH_ok [] (Nat.zero_le _) (fun _ h=>by cases h) lo n hb1 hk1
     conv=>whnf
     refine rdw ?_;repeat' ((with_reducible apply tw)<;>intro _)
     all_goals first|exact absurd (by assumption) he0|skip
     (refine Or.inr ?_;(conv=>whnf))
     (refine (eqNE_ok lo n hb1 hk1).mono ?_;rintro _ _ ⟨rfl,rfl⟩;(conv=>whnf))
     refine rdw ?_;repeat' ((with_reducible apply tw)<;>intro _)
     (refine (heqh).mono ?_;rintro _ _ ⟨rfl,rfl⟩;(conv=>whnf))
     refine rdw ?_;repeat' ((with_reducible apply tw)<;>intro _)
     (refine (numH_ok [] lo n hb1 hk1).mono ?_;rintro _ _ ⟨rfl,rfl⟩;(conv=>whnf))
     refine rdw ?_;repeat' ((with_reducible apply tw)<;>intro _)
     refine ⟨rfl,AW_go ttOk zOk foOk ?_⟩
     conv=>whnf
     refine rdw ?_;repeat' ((with_reducible apply tw)<;>intro _)
     all_goals first|exact absurd (by assumption) he0|skip
     ((with_reducible refine draw_pl ttOk zOk foOk mixedOk pl19x54 ?_ ?_);(focus kernel_rfl);(conv=>whnf))
     refine rdw ?_;repeat' ((with_reducible apply tw)<;>intro _)
     (refine (num20_ok e).mono ?_;rintro _ _ ⟨rfl,rfl⟩;(conv=>whnf))
     refine rdw ?_;repeat' ((with_reducible apply tw)<;>intro _)
     all_goals first|exact absurd rfl (by assumption)|skip
     (refine (heP).mono ?_;rintro _ _ ⟨rfl,rfl⟩;(conv=>whnf))
     refine rdw ?_;repeat' ((with_reducible apply tw)<;>intro _)
     (refine Or.inr ?_;(conv=>whnf))
     (refine (heM).mono ?_;rintro _ _ ⟨rfl,rfl⟩;(conv=>whnf))
     refine rdw ?_;repeat' ((with_reducible apply tw)<;>intro _)
     (refine (h6).mono ?_;rintro _ _ ⟨rfl,rfl⟩;(conv=>whnf))
     refine rdw ?_;repeat' ((with_reducible apply tw)<;>intro _)
     (refine (hsP).mono ?_;rintro _ _ ⟨rfl,rfl⟩;(conv=>whnf))
     refine rdw ?_;repeat' ((with_reducible apply tw)<;>intro _)
     (refine (hsM).mono ?_;rintro _ _ ⟨rfl,rfl⟩;(conv=>whnf))
     refine rdw ?_;repeat' ((with_reducible apply tw)<;>intro _)
     all_goals first|exact absurd (by assumption) he0|skip
     ((with_reducible refine draw_pl ttOk zOk foOk mixedOk pl19x58 ?_ ?_);(focus kernel_rfl);(conv=>whnf))
     repeat' (first|(first|((with_reducible first|apply rd_intro|apply gd_and);(focus ((conv=>whnf)<;>first|rfl|(intro K hK;(conv=>whnf);first|exact hK|exact z_wrap (by omega) hK)));conv=>whnf)|((with_reducible apply z_wrap);(focus omega);conv=>whnf)|((with_reducible first|apply mt_dec|apply mt_eq|apply mt_ne|apply mt_not|apply mt_any)<;>(intro _;conv=>whnf)))|((with_reducible apply rd_intro);(focus (intro K hK;(conv=>whnf);refine h6.mono ?_;rintro _ _ ⟨rfl,rfl⟩;(conv=>whnf);exact hK));(conv=>whnf))|((with_reducible apply gd_and);(focus ((conv=>whnf);intro K hK;(conv=>whnf);refine h6.mono ?_;rintro _ _ ⟨rfl,rfl⟩;(conv=>whnf);exact hK));(conv=>whnf))|(refine (h6).mono ?_;rintro _ _ ⟨rfl,rfl⟩;(conv=>whnf))|fail)
     exact ⟨.inl rfl,⟨p,rfl⟩,rfl⟩
def onStP (s:Script) (k:Int) (i:Nat):AF×List AB:=([(1,.d (.int .i64 k)),(2,.ptr 0 0),(5,.d (.int .i64 i))],[.cells (s.cs.map AV.d)])
def Act.dos (a:Act) (k:Int):Act:={ a with doo:=k }
set_option maxHeartbeats 4000000 in
open Classical in
theorem onlyP_ok (s:Script) (hs:s.okk) (k:Int) (hk:k=1∨k=3):ACalls Tryz.prog 12 [s.av,.d (.int .i64 k)] [] (fun av L=>av = .d (.bool true)∧L=[]):=by
 have hh:=heavyS_full s hs.oks
 have hok:=hs.oks.ok
 have hal:=actsD_length s.acts
 have hpok:s.p.ok:=⟨hok.mine,by rw [hs.gh.2];exact Nat.zero_le _,hok.acks,hok.votes,hok.dag,hok.late⟩
 (refine acalls_go ttOk zOk foOk Tryz.func12 rfl Tryz.ntmps12 rfl false rfl ?_);(conv=>whnf)
 refine rdz ?_;repeat' ((with_reducible apply tw)<;>intro _)
 refine hh.mono ?_
 rintro _ _ ⟨⟨b,rfl,hb⟩,rfl⟩
 cases b with
 | true =>
   conv=>whnf
   refine rdz ?_;repeat' ((with_reducible apply tw)<;>intro _)
   exact ⟨rfl,rfl⟩
 | false =>
   have hlt:=hb rfl
   have e1:=hlt.certs
   have e2:=hlt.late
   have e3:=hlt.votes
   have e4:=hlt.acks
   have e5:=hlt.mine
   have e6:=hlt.acts
   have hpt:s.p.tiny:=⟨⟨by unfold tiny;omega,by unfold tiny;omega,by rw [hs.gh.2];exact Nat.zero_le _⟩,by omega,by omega,⟨by unfold tiny;omega,fun c hc=>(e1.2 c hc).all.2⟩,⟨by unfold tiny;omega,fun c hc=>(e2.2 c hc).all.2⟩⟩
   have hcf:∀ c:Cert,c.light→c.fitS:=fun c h=>⟨by have:=h.1;omega,by have:=h.2.1;omega,by have:=h.2.2;omega⟩
   have hpm:s.p.mine.fitS:=⟨by omega,by omega,by rw [hs.gh.2];exact Nat.zero_le _⟩
   have hpf:s.p.fitS:=⟨by omega,by omega,by omega,by omega,⟨by omega,fun c hc=>hcf c (e1.2 c hc)⟩,⟨by omega,fun c hc=>hcf c (e2.2 c hc)⟩⟩
   conv=>whnf
   refine rdz ?_;repeat' ((with_reducible apply tw)<;>intro _)
   refine loop_go ttOk zOk foOk (σ:=Nat) (onStP s k) (fun i=>i≤s.acts.length) (fun i=>s.acts.length - i) [1,2,5] ?_ ?_
   ·conv=>whnf
    exact ⟨0,rfl,rfl,Nat.zero_le _⟩
   ·intro i hi
    conv=>whnf
    refine rdz ?_;repeat' ((with_reducible apply tw)<;>intro _)
    ·rename_i k1 k2
     replace k1:(i:Int)<((actsD s.acts).length:Int):=k1
     refine Exists.elim (⟨_,List.getElem?_eq_getElem (by omega)⟩:∃ a,s.acts[i]? = some a) fun a ha => ?_
     have ham:=List.mem_of_getElem? ha
     have hla:=e6.2 a ham
     have hst:=step13_ok s.p hpok hpt hpf (by omega) (by omega) hs.gh (a.dos k) hk (by have:=hla.l;show a.l.length≤_;omega) ⟨by have:=hla.h.1;show a.h.bats.length≤_;omega,by have:=hla.h.2;show a.h.pars.length≤_;omega⟩
     refine ⟨by omega,a.cs,by rw [Int.toNat_natCast,actsD,List.getElem?_map,ha];rfl,?_⟩
     conv=>whnf
     refine rdz ?_;repeat' ((with_reducible apply tw)<;>intro _)
     refine hst.mono ?_
     rintro _ _ ⟨⟨q,rfl⟩,rfl⟩
     conv=>whnf
     refine rdz ?_;repeat' ((with_reducible apply tw)<;>intro _)
     exact ⟨i+1,rfl,rfl,(show i+1≤s.acts.length by omega),(show s.acts.length - (i+1)<s.acts.length - i by omega)⟩
    all_goals
     refine wakes_ok.mono ?_
     rintro _ _ ⟨rfl,rfl⟩
     conv=>whnf
     refine rdz ?_;repeat' ((with_reducible apply tw)<;>intro _)
     exact ⟨rfl,rfl⟩
theorem primaryStrange_ok (s:Script) (hs:s.okk):ACalls Tryz.prog 4 [s.av] [] (fun av L=>av = .d (.bool true)∧L=[]):=by
 have h:=onlyP_ok s hs 3 (.inr rfl)
 (refine acalls_go ttOk zOk foOk Tryz.func4 rfl Tryz.ntmps4 rfl false rfl ?_);(conv=>whnf)
 refine rdz ?_;repeat' ((with_reducible apply tw)<;>intro _)
 (refine (h).mono ?_;rintro _ _ ⟨rfl,rfl⟩;(conv=>whnf))
 refine rdz ?_;repeat' ((with_reducible apply tw)<;>intro _)
 exact ⟨rfl,rfl⟩
end Go.Proofs.YtolkmjfkkkiboaaGreat
/- PrimaryStrange: for every argument the law returns true, and its argument reads behind the call as it read before. No condition of ours. -/
namespace Go.Proofs.YtolkmjfkkkiboaaGreat
open Go.Ab Go.RowKit Go.ChangeShapes Go.WideShapes Go.ChangeAt
theorem own:ownKnob Tryz.prog.godebug=none:=by kernel_rfl
theorem laidOut:laidOutB Tryz.prog=true:=by kernel_rfl
set_option maxRecDepth 100000 in
theorem primaryStrange_lifted (os:Os) (started:os.Started) (H:Type) (enc:TypeId×Value→H) :
  ReturnsInHanded {} Tryz.checked os 4 .any (Rows.primaryStrangeSpec.pre6 enc Tryz.prog Tryz.f4 Rows.primaryStrangeRow.domain false) (Rows.primaryStrangeSpec.post enc Tryz.prog Tryz.f4 false true false false):=by
 refine returnsInHanded_of_change_sized (C:=Tryz.checked) own started (by kernel_rfl) Tryz.func4
  (ChangeSpec.witness6 (enc:=enc) (C:=Tryz.checked) false ⟨#[],#[.agg #[.int .i64 0,.int .i64 0,.int .i64 0,.int .i64 0,.int .i64 0,.int .i64 0,.int .i64 0,.slice none 0 0,.slice none 0 0,.int .i64 0,.slice none 0 0,.slice none 0 0,.int .i64 0,.int .i64 0,.slice none 0 0,.slice none 0 0,.slice none 0 0]],[]⟩ 8 (by kernel_rfl) (by kernel_rfl) (by kernel_rfl) (by kernel_rfl)) ?_
 intro W base args ds gs before hval hW _ hsz _
 exact law_contract ttOk (f:=Tryz.f4) (tb:=4) (t:=33) rfl rfl Tryz.underlying4 rfl (fun _ _=>rfl) laidOut (by kernel_rfl) (of_decide_eq_true (by kernel_rfl)) 8 (by kernel_rfl) argS
  (fun W base v ds h1 h2=>argS_ok Tryz.underlying33 h1 h2)
  (fun ds hd=>by
    obtain ⟨p,hp,hok⟩:=askR_of hd
    rw [hp]
    exact primaryStrange_ok p hok) hval hW hsz
theorem jf1:Tryz.prog.inPlace 4=Rows.primaryStrangeRow.inPlace:=by kernel_rfl
theorem jf2:Tryz.prog.unfollowed 4=Rows.primaryStrangeRow.unfollowed:=by kernel_rfl
theorem jf3:Tryz.prog.recurses 4=Rows.primaryStrangeRow.recurses:=by kernel_rfl
theorem jf4:Tryz.prog.varsNamed 4=Rows.primaryStrangeRow.named:=by kernel_rfl
theorem jf5:mapsRowed Tryz.prog=true:=by kernel_rfl
theorem jf:joinedFacts Tryz.prog 4 Tryz.f4 Rows.primaryStrangeSpec Rows.primaryStrangeRow=true:=by
 unfold joinedFacts
 rw [jf1,jf2,jf3,jf4,jf5,laidOut]
 kernel_rfl
theorem primaryStrange_holds:Rows.PrimaryStrangeSaid :=
 OpenClaim.holds_of_wide 4 Tryz.f4 rfl rfl rfl rfl rfl rfl rfl ⟨rfl,rfl,rfl,rfl,rfl⟩ rfl rfl rfl rfl rfl (by kernel_rfl) Tryz.func4 jf
  (of_decide_eq_true (by kernel_rfl)) (by unfold Func.isWrapper;first|(rw [if_pos (by decide +kernel)];kernel_rfl)|(rw [if_neg (by decide +kernel)];exact ⟨rfl,rfl⟩))
  (fun os started H enc _=>primaryStrange_lifted os started H enc)
#print axioms primaryStrange_holds
end Go.Proofs.YtolkmjfkkkiboaaGreat
