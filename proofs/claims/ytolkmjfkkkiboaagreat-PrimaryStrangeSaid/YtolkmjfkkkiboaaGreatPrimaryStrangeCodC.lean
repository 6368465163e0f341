/- PrimaryStrange: contracts. -/
import Derived.Test.YtolkmjfkkkiboaaGreatPrimaryStrangeCodB
import Derived.Shelf.Spec.SlicesInsertGrow
set_option linter.unusedVariables false
set_option linter.unusedSimpArgs false
namespace Go.Proofs.YtolkmjfkkkiboaaGreat
open Go.Ab Go.RowKit Go.MapKept
attribute [local irreducible] ACalls AW ADraw Into fltB fnear
set_option maxRecDepth 100000
def quo (n:Int):Int:=2 * ((n - 1) / 3)+1
structure okHead (n:Int) (c:Cert):Prop where
 isn:isN n=true
 author:1≤c.author∧c.author≤n
 round:1≤c.round∧c.round≤1099511627776
 bats:(c.bats.length:Int)≤8∧riseB c.bats 1 65536
 pars:(c.pars.length:Int)≤n∧riseB c.pars 1 65536
 one:c.round=1→c.pars=[]
 many:c.round≠1→(c.pars.length:Int)≥quo n
structure okCert (n:Int) (c:Cert):Prop where
 head:okHead n c
 digest:1≤c.digest∧c.digest≤65536
 sigs:riseB c.sigs 1 n
 enough:(c.sigs.length:Int)≥quo n
structure fewL (c:Cert):Prop where
 bats:few c.bats
 pars:few c.pars
 sigs:few c.sigs
open Classical in
theorem rHeader_ok (c:Cert) (hf:fewL c) (n:Int):ACalls Tryz.prog 37 [c.hav,.d (.int .i64 n)] [] (fun av L=>av = .d (.bool (decide (okHead n c)))∧L=[]):=by
 have hpl:=nums_length c.pars
 (refine acalls_go ttOk zOk foOk Tryz.func37 rfl Tryz.ntmps37 rfl false rfl ?_);(conv=>whnf)
 refine (rMay_ok n).mono ?_
 rintro _ _ ⟨rfl,rfl⟩
 cases hn:isN n with
 | false =>
   conv=>whnf
   exact ⟨by rw [decide_eq_false (fun h=>by have:=h.isn;rw [hn] at this;cases this)];rfl,rfl⟩
 | true =>
   have hn':=of_decide_eq_true hn
   conv=>whnf
   refine rdw ?_;repeat' ((with_reducible apply tw)<;>intro _)
   ·rename_i h
    exact ⟨by rw [decide_eq_false (fun h1=>by have:=h1.author;omega)];rfl,rfl⟩
   ·rename_i h1 h
    exact ⟨by rw [decide_eq_false (fun h1=>by have:=h1.author;omega)];rfl,rfl⟩
   ·rename_i h1 h2 h
    exact ⟨by rw [decide_eq_false (fun h1=>by have:=h1.round;omega)];rfl,rfl⟩
   ·rename_i h1 h2 h3 h
    exact ⟨by rw [decide_eq_false (fun h1=>by have:=h1.round;omega)];rfl,rfl⟩
   ·rename_i h1 h2 h3 h4
    refine (rdigests_ok c.bats hf.bats 8).mono ?_
    rintro _ _ ⟨rfl,rfl⟩
    conv=>whnf
    refine rdw ?_;repeat' ((with_reducible apply tw)<;>intro _)
    ·rename_i h5
     exact ⟨by rw [decide_eq_false (fun h=>of_decide_eq_false h5 h.bats)];rfl,rfl⟩
    ·rename_i h5
     replace h5:=of_decide_eq_true h5
     refine (rdigests_ok c.pars hf.pars n).mono ?_
     rintro _ _ ⟨rfl,rfl⟩
     conv=>whnf
     refine rdw ?_;repeat' ((with_reducible apply tw)<;>intro _)
     ·rename_i h6
      exact ⟨by rw [decide_eq_false (fun h=>of_decide_eq_false h6 h.pars)];rfl,rfl⟩
     ·rename_i h6 h7
      replace h6:=of_decide_eq_true h6
      refine ⟨boolEq ?_,rfl⟩
      simp only [beq_iff_eq,decide_eq_true_iff,hpl]
      constructor
      ·intro h8
       exact ⟨hn,by omega,by omega,h5,h6,fun _=>List.eq_nil_of_length_eq_zero (by omega),fun h=>absurd h7 h⟩
      ·intro h8
       rw [h8.one h7];rfl
     ·rename_i h6 h7
      replace h6:=of_decide_eq_true h6
      ((with_reducible refine draw_pl ttOk zOk foOk mixedOk pl37x5 ?_ ?_);(focus kernel_rfl);(conv=>whnf))
      refine rdw ?_;repeat' ((with_reducible apply tw)<;>intro _)
      refine (rQuorum_ok n hn).mono ?_
      rintro _ _ ⟨rfl,rfl⟩
      conv=>whnf
      refine rdw ?_;repeat' ((with_reducible apply tw)<;>intro _)
      refine ⟨boolEq ?_,rfl⟩
      simp only [decide_eq_true_iff,hpl]
      constructor
      ·intro h8
       exact ⟨hn,by omega,by omega,h5,h6,fun h=>absurd h h7,fun _=>h8⟩
      ·intro h8
       exact h8.many h7
open Classical in
theorem rCert_ok (c:Cert) (hf:fewL c) (n:Int):ACalls Tryz.prog 69 [c.av,.d (.int .i64 n)] [] (fun av L=>av = .d (.bool (decide (okCert n c)))∧L=[]):=by
 have hsl:=nums_length c.sigs
 (refine acalls_go ttOk zOk foOk Tryz.func69 rfl Tryz.ntmps69 rfl false rfl ?_);(conv=>whnf)
 ((with_reducible refine draw_pl ttOk zOk foOk mixedOk pl69x1 ?_ ?_);(focus kernel_rfl);(conv=>whnf))
 refine rdw ?_;repeat' ((with_reducible apply tw)<;>intro _)
 refine (rHeader_ok c hf n).mono ?_
 rintro _ _ ⟨rfl,rfl⟩
 conv=>whnf
 refine rdw ?_;repeat' ((with_reducible apply tw)<;>intro _)
 ·rename_i h1
  refine (rDigest_ok c.digest).mono ?_
  rintro _ _ ⟨rfl,rfl⟩
  conv=>whnf
  refine rdw ?_;repeat' ((with_reducible apply tw)<;>intro _)
  ·rename_i h2
   refine (rRising_ok c.sigs hf.sigs).mono ?_
   rintro _ _ ⟨rfl,rfl⟩
   conv=>whnf
   refine rdw ?_;repeat' ((with_reducible apply tw)<;>intro _)
   ·rename_i h3
    refine (rBetween_ok c.sigs hf.sigs 1 n).mono ?_
    rintro _ _ ⟨rfl,rfl⟩
    conv=>whnf
    refine rdw ?_;repeat' ((with_reducible apply tw)<;>intro _)
    ·rename_i h4
     refine (rQuorum_ok n h1.isn).mono ?_
     rintro _ _ ⟨rfl,rfl⟩
     conv=>whnf
     refine rdw ?_;repeat' ((with_reducible apply tw)<;>intro _)
     refine ⟨boolEq ?_,rfl⟩
     simp only [decide_eq_true_iff,hsl]
     exact ⟨fun h=>⟨h1,h2,⟨h3,h4⟩,h⟩,fun h=>h.enough⟩
    ·rename_i h4
     exact ⟨by rw [decide_eq_false (fun h=>h4 h.sigs.2)];rfl,rfl⟩
   ·rename_i h3
    exact ⟨by rw [decide_eq_false (fun h=>h3 h.sigs.1)];rfl,rfl⟩
  ·rename_i h2
   exact ⟨by rw [decide_eq_false (fun h=>h2 h.digest)];rfl,rfl⟩
 ·rename_i h1
  exact ⟨by rw [decide_eq_false (fun h=>h1 h.head)];rfl,rfl⟩
structure okForm (n:Int) (c:Cert):Prop where
 author:1≤c.author∧c.author≤n
 round:1≤c.round∧c.round≤1099511627776
 bats:(c.bats.length:Int)≤8∧riseB c.bats 1 65536
 pars:(c.pars.length:Int)≤n∧riseB c.pars 1 65536
 one:c.round=1→c.pars=[]
open Classical in
theorem form_ok (c:Cert) (hf:fewL c) (n:Int):ACalls Tryz.prog 140 [c.hav,.d (.int .i64 n)] [] (fun av L=>av = .d (.bool (decide (okForm n c)))∧L=[]):=by
 have hpl:=nums_length c.pars
 have hbl:=nums_length c.bats
 (refine acalls_go ttOk zOk foOk Tryz.func140 rfl Tryz.ntmps140 rfl false rfl ?_);(conv=>whnf)
 refine rdw ?_;repeat' ((with_reducible apply tw)<;>intro _)
 ·rename_i h
  exact ⟨by rw [decide_eq_false (fun h1=>by have:=h1.author;omega)];rfl,rfl⟩
 ·rename_i h1 h
  exact ⟨by rw [decide_eq_false (fun h1=>by have:=h1.author;omega)];rfl,rfl⟩
 ·rename_i h1 h2 h
  exact ⟨by rw [decide_eq_false (fun h1=>by have:=h1.round;omega)];rfl,rfl⟩
 ·rename_i h1 h2 h3 h
  exact ⟨by rw [decide_eq_false (fun h1=>by have:=h1.round;omega)];rfl,rfl⟩
 ·rename_i h1 h2 h3 h4 h
  exact ⟨by rw [decide_eq_false (fun h1=>by have:=h1.bats.1;omega)];rfl,rfl⟩
 ·rename_i h1 h2 h3 h4 h5
  refine (digests_ok c.bats hf.bats).mono ?_
  rintro _ _ ⟨rfl,rfl⟩
  conv=>whnf
  refine rdw ?_;repeat' ((with_reducible apply tw)<;>intro _)
  ·rename_i h6
   refine (digests_ok c.pars hf.pars).mono ?_
   rintro _ _ ⟨rfl,rfl⟩
   conv=>whnf
   refine rdw ?_;repeat' ((with_reducible apply tw)<;>intro _)
   ·rename_i h7 h8 h9
    exact ⟨by rw [decide_eq_true ⟨by omega,by omega,⟨by omega,h6⟩,⟨by omega,h7⟩,fun h=>absurd h (by omega)⟩];rfl,rfl⟩
   ·rename_i h7 h8 h9
    refine ⟨boolEq ?_,rfl⟩
    simp only [beq_iff_eq,decide_eq_true_iff,hpl]
    exact ⟨fun h=>⟨by omega,by omega,⟨by omega,h6⟩,⟨by omega,h7⟩,fun _=>List.eq_nil_of_length_eq_zero (by omega)⟩,fun h=>by rw [h.one (by omega)];rfl⟩
   ·rename_i h7 h8
    exact ⟨by rw [decide_eq_false (fun h=>by have:=h.pars.1;omega)];rfl,rfl⟩
   ·rename_i h7
    exact ⟨by rw [decide_eq_false (fun h=>h7 h.pars.2)];rfl,rfl⟩
  ·rename_i h6
   exact ⟨by rw [decide_eq_false (fun h=>h6 h.bats.2)];rfl,rfl⟩
open Classical in
theorem hMay_ok (c:Cert) (hf:fewL c) (n:Int):ACalls Tryz.prog 92 [c.hav,.d (.int .i64 n)] [] (fun av L=>av = .d (.bool (decide (okHead n c)))∧L=[]):=by
 have hpl:=nums_length c.pars
 (refine acalls_go ttOk zOk foOk Tryz.func92 rfl Tryz.ntmps92 rfl false rfl ?_);(conv=>whnf)
 ((with_reducible refine draw_pl ttOk zOk foOk mixedOk pl92x1 ?_ ?_);(focus kernel_rfl);(conv=>whnf))
 refine rdw ?_;repeat' ((with_reducible apply tw)<;>intro _)
 refine (is_ok n).mono ?_
 rintro _ _ ⟨rfl,rfl⟩
 obtain ⟨b,hb⟩:∃ b,isN n=b:=⟨_,rfl⟩
 rw [hb]
 conv=>whnf
 refine rdw ?_;repeat' ((with_reducible apply tw)<;>intro _)
 ·rename_i h1
  rw [h1] at hb
  have hn':=of_decide_eq_true hb
  refine (form_ok c hf n).mono ?_
  rintro _ _ ⟨rfl,rfl⟩
  conv=>whnf
  refine rdw ?_;repeat' ((with_reducible apply tw)<;>intro _)
  ·rename_i h2 h3
   exact ⟨by rw [decide_eq_true ⟨hb,h2.author,h2.round,h2.bats,h2.pars,h2.one,fun h=>absurd h3 h⟩];rfl,rfl⟩
  ·rename_i h2 h3
   refine (q_ok n ⟨by omega,by omega⟩).mono ?_
   rintro _ _ ⟨rfl,rfl⟩
   conv=>whnf
   refine rdw ?_;repeat' ((with_reducible apply tw)<;>intro _)
   refine ⟨boolEq ?_,rfl⟩
   simp only [decide_eq_true_iff,hpl]
   exact ⟨fun h=>⟨hb,h2.author,h2.round,h2.bats,h2.pars,h2.one,fun _=>h⟩,fun h=>h.many h3⟩
  ·rename_i h2
   exact ⟨by rw [decide_eq_false (fun h=>h2 ⟨h.author,h.round,h.bats,h.pars,h.one⟩)];rfl,rfl⟩
 ·rename_i h1
  rw [h1] at hb
  exact ⟨by rw [decide_eq_false (fun h=>by have:=h.isn;rw [hb] at this;cases this)];rfl,rfl⟩
open Classical in
theorem mayCert_ok (c:Cert) (hf:fewL c) (n:Int):ACalls Tryz.prog 130 [c.av,.d (.int .i64 n)] [] (fun av L=>av = .d (.bool (decide (okCert n c)))∧L=[]):=by
 have hsl:=nums_length c.sigs
 (refine acalls_go ttOk zOk foOk Tryz.func130 rfl Tryz.ntmps130 rfl false rfl ?_);(conv=>whnf)
 ((with_reducible refine draw_pl ttOk zOk foOk mixedOk pl130x1 ?_ ?_);(focus kernel_rfl);(conv=>whnf))
 refine rdw ?_;repeat' ((with_reducible apply tw)<;>intro _)
 refine (hMay_ok c hf n).mono ?_
 rintro _ _ ⟨rfl,rfl⟩
 conv=>whnf
 refine rdw ?_;repeat' ((with_reducible apply tw)<;>intro _)
 ·rename_i h1
  have hn':=of_decide_eq_true h1.isn
  refine (digest_ok c.digest).mono ?_
  rintro _ _ ⟨rfl,rfl⟩
  conv=>whnf
  refine rdw ?_;repeat' ((with_reducible apply tw)<;>intro _)
  ·rename_i h2
   refine (crising_ok c.sigs hf.sigs 1 n).mono ?_
   rintro _ _ ⟨rfl,rfl⟩
   conv=>whnf
   refine rdw ?_;repeat' ((with_reducible apply tw)<;>intro _)
   ·rename_i h3
    refine (q_ok n ⟨by omega,by omega⟩).mono ?_
    rintro _ _ ⟨rfl,rfl⟩
    conv=>whnf
    refine rdw ?_;repeat' ((with_reducible apply tw)<;>intro _)
    refine ⟨boolEq ?_,rfl⟩
    simp only [decide_eq_true_iff,hsl]
    exact ⟨fun h=>⟨h1,h2,h3,h⟩,fun h=>h.enough⟩
   ·rename_i h3
    exact ⟨by rw [decide_eq_false (fun h=>h3 h.sigs)];rfl,rfl⟩
  ·rename_i h2
   exact ⟨by rw [decide_eq_false (fun h=>h2 h.digest)];rfl,rfl⟩
 ·rename_i h1
  exact ⟨by rw [decide_eq_false (fun h=>h1 h.head)];rfl,rfl⟩
end Go.Proofs.YtolkmjfkkkiboaaGreat
namespace Go.Proofs.YtolkmjfkkkiboaaGreat
open Go.Ab Go.RowKit
theorem dig_inj {l:List Cert} (h:(l.map (·.digest)).Nodup) {x y:Cert} (hx:x∈l) (hy:y∈l) (e:x.digest=y.digest):x=y:=by
 induction l with
 | nil=>cases hx
 | cons z r ih =>
   rw [List.map_cons,List.nodup_cons] at h
   rcases List.mem_cons.1 hx with hx1|hx1
   ·rcases List.mem_cons.1 hy with hy1|hy1
    ·rw [hx1,hy1]
    ·exact absurd (List.mem_map.2 ⟨y,hy1,by rw [← e,hx1]⟩) h.1
   ·rcases List.mem_cons.1 hy with hy1|hy1
    ·exact absurd (List.mem_map.2 ⟨x,hx1,by rw [e,hy1]⟩) h.1
    ·exact ih h.2 hx1 hy1
def certOf (d:Dag) (x:Int):Option Cert:=(getC d.certs x).bind fun i=>d.certs[i]?
theorem certOf_mem {d:Dag} (h:(d.certs.map (·.digest)).Nodup) {c:Cert} (hc:c∈d.certs):certOf d c.digest=some c:=by
 unfold certOf
 cases hg:getC d.certs c.digest with
 | none =>
   unfold getC at hg
   rw [List.findIdx?_eq_none_iff] at hg
   have:=hg c hc
   simp at this
 | some i =>
   obtain ⟨c',h1,h2⟩:=getC_some hg
   rw [Option.bind_some,h1,dig_inj h (List.mem_of_getElem? h1) hc h2]
theorem certOf_some {d:Dag} {x:Int} {c:Cert} (h:certOf d x=some c):c∈d.certs∧c.digest=x∧∃ i,getC d.certs x=some i∧d.certs[i]? = some c:=by
 unfold certOf at h
 cases hg:getC d.certs x with
 | none=>rw [hg] at h;cases h
 | some i =>
   rw [hg,Option.bind_some] at h
   obtain ⟨c',h1,h2⟩:=getC_some hg
   rw [h1] at h;cases h
   exact ⟨List.mem_of_getElem? h1,h2,i,rfl,h1⟩
end Go.Proofs.YtolkmjfkkkiboaaGreat
namespace Go.Proofs.YtolkmjfkkkiboaaGreat
open Go.Ab Go.RowKit Go.MapKept
attribute [local irreducible] ACalls AW ADraw Into fltB fnear
set_option maxRecDepth 100000
def mapP (ps:List (Int×Int)):List (KV×MV):=ps.map fun p=>(.one (.int .i64 p.1),.v (.one (.int .i64 p.2)))
def lookP (k:Int):List (Int×Int)→Option Int
 | []=>none
 | p :: r=>if p.1=k then some p.2 else lookP k r
theorem mapP_find (k:Int):∀ (ps:List (Int×Int)) (j:Nat),∃ r,mfind (.one (.int .i64 k)) (mapP ps) j=some r∧((∃ v i,lookP k ps=some v∧r=some (i,.v (.one (.int .i64 v))))∨(lookP k ps=none∧r=none))
 | [],j=>⟨none,rfl,.inr ⟨rfl,rfl⟩⟩
 | p :: t,j=>by
   obtain ⟨r,h1,h2⟩:=mapP_find k t (j+1)
   have e:mfind (.one (.int .i64 k)) (mapP (p :: t)) j=match some (k == p.1) with
     | some true=>some (some (j,.v (.one (.int .i64 p.2))))
     | some false=>mfind (.one (.int .i64 k)) (mapP t) (j+1)
     | none=>none:=rfl
   by_cases h:p.1=k
   ·rw [e,show (k == p.1)=true by simp [h]]
    exact ⟨_,rfl,.inl ⟨p.2,j,by rw [lookP,if_pos h],rfl⟩⟩
   ·rw [e,show (k == p.1)=false by simpa using Ne.symm h]
    refine ⟨r,h1,?_⟩
    rw [lookP,if_neg h]
    exact h2
theorem lookP_none {k:Int}:∀ {ps:List (Int×Int)},(∀ p∈ps,p.1≠k)→lookP k ps=none
 | [],_=>rfl
 | p :: r,h=>by rw [lookP,if_neg (h p (by simp)),lookP_none fun q hq=>h q (by simp [hq])]
theorem lookP_some {k v:Int}:∀ {ps:List (Int×Int)},(ps.map (·.1)).Nodup→(k,v)∈ps→lookP k ps=some v
 | p :: r,hn,h=>by
   rw [List.map_cons,List.nodup_cons] at hn
   rcases List.mem_cons.1 h with h|h
   ·subst h;rw [lookP,if_pos rfl]
   ·rw [lookP,if_neg (fun e=>hn.1 (List.mem_map.2 ⟨_,h,e.symm⟩)),lookP_some hn.2 h]
theorem mapP_new {k v:Int} {ps:List (Int×Int)} (h:lookP k ps=none):∃ r,mfind (.one (.int .i64 k)) (mapP ps) 0=some r∧mputAt (mapP ps) r (.one (.int .i64 k)) (.v (.one (.int .i64 v)))=mapP (ps++[(k,v)]):=by
 obtain ⟨r,h1,⟨w,i,h2,_⟩|⟨_,rfl⟩⟩:=mapP_find k ps 0
 ·rw [h] at h2;cases h2
 ·exact ⟨none,h1,by simp [mputAt,mapP]⟩
structure Valid (d:Dag):Prop where
 nodes:isN d.nodes=true
 low:0≤d.low∧d.low≤1099511627776
 len:d.certs.length≤65536
 certs:∀ c∈d.certs,okCert d.nodes c
 above:∀ c∈d.certs,d.low<c.round
 sorted:sortedC d.certs
 dig:(d.certs.map (·.digest)).Nodup
 here:∀ c∈d.certs,c.round>d.low+1→∀ x∈c.pars,∃ c'∈d.certs,c'.digest=x∧c'.round=c.round - 1
theorem Valid.well {d:Dag} (h:Valid d):d.well:=by
 have hn:=of_decide_eq_true h.nodes
 have hr:∀ c∈d.certs,1≤c.round∧c.round≤1099511627776:=fun c hc=>(h.certs c hc).head.round
 have ha:∀ c∈d.certs,1≤c.author∧c.author≤d.nodes:=fun c hc=>(h.certs c hc).head.author
 have hl:=h.len
 refine ⟨⟨by unfold few;omega,h.sorted,fun c hc=>⟨⟨by have:=hr c hc;omega,by have:=hr c hc;omega⟩,⟨by have:=ha c hc;omega,by have:=ha c hc;omega⟩⟩,fun c hc=>⟨(ha c hc).1,by have:=ha c hc;omega⟩⟩,⟨by omega,by omega⟩,fun c hc=>by have:=(h.certs c hc).head.pars.1;unfold few;omega,h.low,?_,h.len,h.dig,fun c hc=>(h.certs c hc).digest.1⟩
 unfold topR
 cases hg:d.certs.getLast? with
 | none=>decide
 | some c=>exact (hr c (List.mem_of_getLast? hg)).2
theorem Valid.fewL {d:Dag} (h:Valid d) {c:Cert} (hc:c∈d.certs):fewL c:=by
 have hn:=of_decide_eq_true h.nodes
 have h1:=h.certs c hc
 have h2:=h1.head.bats.1
 have h3:=h1.head.pars.1
 refine ⟨by unfold few;omega,by unfold few;omega,?_⟩
 have:=rising_nodup h1.sigs.1
 have:=sub_len (m:=(List.range 17).map fun n:Nat=>(n:Int)) this fun x hx=>by
  have:=h1.sigs.2 x hx
  exact List.mem_map.2 ⟨x.toNat,by simp;omega,by omega⟩
 simp at this
 unfold few
 omega
def seenP (l:List Cert):List (Int×Int):=l.map fun c=>(c.digest,c.round)
theorem seen_keys (l:List Cert):(seenP l).map (·.1)=l.map (·.digest):=by simp [seenP]
theorem Valid.fresh {d:Dag} (h:Valid d) {j:Nat} {c:Cert} (hc:d.certs[j]? = some c):lookP c.digest (seenP (d.certs.take j))=none:=by
 refine lookP_none fun p hp e => ?_
 obtain ⟨c',hc',rfl⟩:=List.mem_map.1 hp
 have h1:=h.dig
 have h2:d.certs.take (j+1)=d.certs.take j++[c]:=by rw [List.take_add_one,hc];rfl
 have h3:((d.certs.take (j+1)).map (·.digest)).Nodup:=h1.sublist ((List.take_sublist ..).map _)
 rw [h2,List.map_append,List.nodup_append] at h3
 exact h3.2.2 c'.digest (List.mem_map.2 ⟨c',hc',rfl⟩) c.digest (by simp) e
theorem Valid.parent {d:Dag} (h:Valid d) {j:Nat} {c:Cert} (hc:d.certs[j]? = some c) (hr:c.round>d.low+1) {x:Int} (hx:x∈c.pars):lookP x (seenP (d.certs.take j))=some (c.round - 1):=by
 obtain ⟨c',h1,h2,h3⟩:=h.here c (List.mem_of_getElem? hc) hr x hx
 obtain ⟨i,hi⟩:=List.getElem?_of_mem h1
 have hjl:j<d.certs.length:=by
  rcases Nat.lt_or_ge j d.certs.length with h|h
  ·exact h
  ·rw [List.getElem?_eq_none h] at hc;cases hc
 have hil:i<d.certs.length:=by
  rcases Nat.lt_or_ge i d.certs.length with h|h
  ·exact h
  ·rw [List.getElem?_eq_none h] at hi;cases hi
 have hij:i<j:=by
  rcases Nat.lt_trichotomy i j with h4|h4|h4
  ·exact h4
  ·subst h4;rw [hc] at hi;cases hi;omega
  ·have:=List.pairwise_iff_getElem.1 h.sorted j i hjl hil h4
   rw [List.getElem?_eq_getElem hjl] at hc
   rw [List.getElem?_eq_getElem hil] at hi
   cases hc;cases hi
   have:=before_iff.1 this
   omega
 refine lookP_some ?_ ?_
 ·rw [seen_keys];exact h.dig.sublist ((List.take_sublist ..).map _)
 ·refine List.mem_map.2 ⟨c',?_,by rw [h2,h3]⟩
  rw [List.mem_take_iff_getElem]
  rw [List.getElem?_eq_getElem hil] at hi
  exact ⟨i,by omega,Option.some.inj hi⟩
def tiny {α:Type} (l:List α):Prop:=l.length≤1099511627776
structure Cert.tiny (c:Cert):Prop where
 bats:Go.Proofs.YtolkmjfkkkiboaaGreat.tiny c.bats
 pars:Go.Proofs.YtolkmjfkkkiboaaGreat.tiny c.pars
 sigs:Go.Proofs.YtolkmjfkkkiboaaGreat.tiny c.sigs
theorem wrap_u64 (i:Int):IntKind.u64.wrap i=i % 18446744073709551616:=by
 simp [IntKind.wrap,IntKind.signed,IntKind.bits]
theorem within_ok (i n:Int) (hn:0<n) (hn2:n≤1000000) (hi : -9223372036854775808≤i∧i<9223372036854775808):ACalls Tryz.prog 42 [.d (.int .i64 i),.d (.int .i64 n)] [] (fun av L=>av = .d (.int .i64 ((i % 18446744073709551616) % n))∧L=[]):=by
 (refine acalls_go ttOk zOk foOk Tryz.func42 rfl Tryz.ntmps42 rfl false rfl ?_);(conv=>whnf)
 intro z hz
 rw [wrap_u64] at hz
 have h0:=Int.emod_nonneg i (show (18446744073709551616:Int)≠0 by decide)
 rw [← hz] at h0 ⊢
 clear hz
 conv=>whnf
 intro m hm
 have hm':m=n:=by rw [hm,wrap_u64];omega
 clear hm
 subst hm'
 conv=>whnf
 refine ⟨by omega,?_⟩
 intro r hr
 have hr':r=z % m:=by rw [hr,Int.tmod_eq_emod_of_nonneg h0]
 clear hr
 have h1:=Int.emod_nonneg z (show m≠0 by omega)
 have h2:=Int.emod_lt_of_pos z hn
 rw [← hr'] at h1 h2 ⊢
 clear hr'
 conv=>whnf
 intro q hq
 have hq':q=r:=by rw [hq,wrapI (by omega)]
 clear hq
 subst hq'
 conv=>whnf
 exact ⟨rfl,rfl⟩
theorem take_succ_eq {α:Type} {xs ys:List α} {k:Nat} {a b:α} (hx:xs[k]? = some a) (hy:ys[k]? = some b) (h:xs.take k=ys.take k):xs.take (k+1)=ys.take (k+1)↔a=b:=by
 rw [List.take_add_one,List.take_add_one,h,hx,hy]
 simp only [Option.toList_some,List.append_cancel_left_eq,List.cons.injEq,and_true]
theorem eqNumbers_ok (xs ys:List Int) (hm:few xs):ACalls Tryz.prog 46 [.d (.sl 1 (nums xs)),.d (.sl 1 (nums ys))] [] (fun av L=>av = .d (.bool (decide (xs=ys)))∧L=[]):=by
 have hx:=nums_length xs
 have hy:=nums_length ys
 unfold few at hm
 (refine acalls_go ttOk zOk foOk Tryz.func46 rfl Tryz.ntmps46 rfl false rfl ?_);(conv=>whnf)
 rw [hx,hy]
 refine rdw ?_;repeat' ((with_reducible apply tw)<;>intro _)
 ·rename_i h
  rw [decide_eq_false (fun e=>h (by rw [e]))]
  exact ⟨rfl,rfl⟩
 ·rename_i h
  have hl:xs.length=ys.length:=by omega
  refine loop_go ttOk zOk foOk (σ:=Nat) (fun k=>([(0,.d (.sl 1 (nums xs))),(1,.d (.sl 1 (nums ys))),(5,.d (.int .i64 k))],[])) (fun k=>k≤xs.length∧xs.take k=ys.take k) (fun k=>xs.length - k) [0,1,5] ?_ ?_
  ·conv=>whnf
   exact ⟨0,rfl,rfl,by simp⟩
  ·rintro k ⟨hk,he⟩
   conv=>whnf
   rw [hx]
   refine rdw ?_;repeat' ((with_reducible apply tw)<;>intro _)
   ·rename_i h
    refine Exists.elim (⟨_,List.getElem?_eq_getElem (by omega)⟩:∃ a,xs[k]? = some a) fun a ha => ?_
    refine Exists.elim (⟨_,List.getElem?_eq_getElem (by omega)⟩:∃ b,ys[k]? = some b) fun b hb => ?_
    ((with_reducible refine draw_pl ttOk zOk foOk mixedOk pl46x6 ?_ ?_);(focus kernel_rfl);(conv=>whnf))
    refine rdw ?_;repeat' ((with_reducible apply tw)<;>intro _)
    ((with_reducible apply rd_intro);(focus (intro K hK;(conv=>whnf);exact ⟨by omega,[.int .i64 a],nums_at ha,hK⟩));(conv=>whnf))
    refine rdw ?_;repeat' ((with_reducible apply tw)<;>intro _)
    ((with_reducible apply rd_intro);(focus (intro K hK;(conv=>whnf);exact ⟨by omega,[.int .i64 b],nums_at hb,hK⟩));(conv=>whnf))
    refine rdw ?_;repeat' ((with_reducible apply tw)<;>intro _)
    ·rename_i h
     rw [decide_eq_false (fun e=>by subst e;rw [ha] at hb;cases hb;exact h rfl)]
     exact ⟨rfl,rfl⟩
    ·rename_i h
     exact ⟨k+1,rfl,rfl,⟨by omega,(take_succ_eq ha hb he).2 (by omega)⟩,by omega⟩
   ·rename_i h
    obtain rfl:k=xs.length:=by omega
    rw [decide_eq_true (by rw [List.take_length,hl,List.take_length] at he;exact he)]
    exact ⟨rfl,rfl⟩
theorem copyNumbers_ok (xs:List Int) (hm:tiny xs):ACalls Tryz.prog 26 [.d (.sl 1 (nums xs))] [] (fun av L=>av = .d (.sl 1 (nums xs))∧L=[]):=by
 have hx:=nums_length xs
 unfold tiny at hm
 (refine acalls_go ttOk zOk foOk Tryz.func26 rfl Tryz.ntmps26 rfl false rfl ?_);(conv=>whnf)
 refine loop_go ttOk zOk foOk (σ:=Nat) (fun k=>([(0,.d (.sl 1 (nums xs))),(3,.arr 0),(4,.d (.int .i64 k))],[.row 3 1 (nums (xs.take k)) false])) (fun k=>k≤xs.length) (fun k=>xs.length - k) [0,3,4] ?_ ?_
 ·conv=>whnf
  exact ⟨0,rfl,rfl,by omega⟩
 ·intro k hk
  conv=>whnf
  rw [hx]
  refine rdw ?_;repeat' ((with_reducible apply tw)<;>intro _)
  ·rename_i h
   refine Exists.elim (⟨_,List.getElem?_eq_getElem (by omega)⟩:∃ a,xs[k]? = some a) fun a ha => ?_
   have hkn:=nums_length (xs.take k)
   refine ⟨by omega,[.int .i64 a],nums_at ha,?_⟩
   conv=>whnf
   refine rdw ?_;repeat' ((with_reducible apply tw)<;>intro _)
   refine ⟨by simp [hkn];omega,?_⟩
   conv=>whnf
   refine rdw ?_;repeat' ((with_reducible apply tw)<;>intro _)
   refine ⟨k+1,rfl,?_,by omega,by omega⟩
   rw [List.take_add_one,ha,← nums_apps]
   rfl
  ·rename_i h
   rw [List.take_of_length_le (by omega)]
   exact ⟨rfl,rfl⟩
theorem copyHeader_ok (c:Cert) (h:c.tiny):ACalls Tryz.prog 25 [c.hav] [] (fun av L=>av=c.hav∧L=[]):=by
 (refine acalls_go ttOk zOk foOk Tryz.func25 rfl Tryz.ntmps25 rfl false rfl ?_);(conv=>whnf)
 refine (copyNumbers_ok c.bats h.bats).mono ?_
 rintro _ _ ⟨rfl,rfl⟩
 conv=>whnf
 refine (copyNumbers_ok c.pars h.pars).mono ?_
 rintro _ _ ⟨rfl,rfl⟩
 conv=>whnf
 exact ⟨rfl,rfl⟩
theorem copyCert_ok (c:Cert) (h:c.tiny):ACalls Tryz.prog 66 [c.av] [] (fun av L=>av=c.av∧L=[]):=by
 (refine acalls_go ttOk zOk foOk Tryz.func66 rfl Tryz.ntmps66 rfl false rfl ?_);(conv=>whnf)
 refine (copyHeader_ok c h).mono ?_
 rintro _ _ ⟨rfl,rfl⟩
 conv=>whnf
 refine (copyNumbers_ok c.sigs h.sigs).mono ?_
 rintro _ _ ⟨rfl,rfl⟩
 conv=>whnf
 exact ⟨rfl,rfl⟩
theorem copyCerts_ok (l:List Cert) (hl:tiny l) (h:∀ c∈l,c.tiny):ACalls Tryz.prog 29 [.d (.sl 6 (certsD l))] [] (fun av L=>av = .d (.sl 6 (certsD l))∧L=[]):=by
 have hx:=certsD_length l
 unfold tiny at hl
 (refine acalls_go ttOk zOk foOk Tryz.func29 rfl Tryz.ntmps29 rfl false rfl ?_);(conv=>whnf)
 refine loop_go ttOk zOk foOk (σ:=Nat) (fun k=>([(0,.d (.sl 6 (certsD l))),(3,.arr 0),(4,.d (.int .i64 k))],[.row 47 6 (certsD (l.take k)) false])) (fun k=>k≤l.length) (fun k=>l.length - k) [0,3,4] ?_ ?_
 ·conv=>whnf
  exact ⟨0,rfl,rfl,by omega⟩
 ·intro k hk
  conv=>whnf
  rw [hx]
  refine rdw ?_;repeat' ((with_reducible apply tw)<;>intro _)
  ·rename_i h2
   refine Exists.elim (⟨_,List.getElem?_eq_getElem (by omega)⟩:∃ a,l[k]? = some a) fun a ha => ?_
   have hkn:=certsD_length (l.take k)
   refine ⟨by omega,a.cs,certsD_at ha,?_⟩
   conv=>whnf
   refine rdw ?_;repeat' ((with_reducible apply tw)<;>intro _)
   refine (copyCert_ok a (h a (List.mem_of_getElem? ha))).mono ?_
   rintro _ _ ⟨rfl,rfl⟩
   conv=>whnf
   refine rdw ?_;repeat' ((with_reducible apply tw)<;>intro _)
   refine ⟨by simp [hkn];omega,?_⟩
   conv=>whnf
   refine rdw ?_;repeat' ((with_reducible apply tw)<;>intro _)
   refine ⟨k+1,rfl,?_,by omega,by omega⟩
   rw [List.take_add_one,ha]
   simp [certsD,Cert.cs]
  ·rename_i h2
   rw [List.take_of_length_le (by omega)]
   exact ⟨rfl,rfl⟩
end Go.Proofs.YtolkmjfkkkiboaaGreat
namespace Go.Ab
noncomputable section
open Go.RowKit
def deepK (x:AV) (L:List AB) (K:AV→List AB→Prop):Prop :=
 match x with
 | .agg xs=>argsK xs L fun ys L'=>K (.agg ys) L'
 | x=>argK x L K
noncomputable def deepsK (xs:List AV):List AB→(List AV→List AB→Prop)→Prop :=
 List.rec (motive:=fun _=>List AB→(List AV→List AB→Prop)→Prop) (fun L K=>K [] L) (fun x _ ih L K=>deepK x L fun y L1=>ih L1 fun l L2=>K (y :: l) L2) xs
theorem argsS_ok {c:Ctx} (hc:c.wf) {E:Nat→Option Nat} {w:World}:∀ {xs:List AV} {L:List AB} {K:List AV→List AB→Prop} {us:List Value},SimH c E L w→argsK xs L K→VRs (rcOf c.M0 E L w) xs us →
  ∃ ys L',K ys L'∧SimH c E L' w∧(rcOf c.M0 E L w).le (rcOf c.M0 E L' w)∧VRs (rcOf c.M0 E L' w) ys us
 | [],L,K,us,hs,h,hv=>⟨[],L,h,hs,.refl _,by simpa [VRs] using hv⟩
 | x :: xs,L,K,us,hs,h,hv=>by
   simp only [VRs] at hv
   obtain ⟨u,us',rfl,h0,h1,h2⟩:=hv
   obtain ⟨y,L1,k1,k2,k3,k4⟩:=argK_ok hc hs (show argK x L fun y L1=>argsK xs L1 fun l L2=>K (y :: l) L2 from h) h1
   obtain ⟨ys,L2,m1,m2,m3,m4⟩:=argsS_ok hc (xs:=xs) k2 k1 (VRs.mono k3 _ _ h2)
   exact ⟨y :: ys,L2,m1,m2,k3.trans m3,by simp only [VRs];exact ⟨u,us',rfl,h0,VR.mono m3 _ _ k4,m4⟩⟩
theorem deepK_ok {c:Ctx} (hc:c.wf) {E:Nat→Option Nat} {L:List AB} {w:World} (hs:SimH c E L w) {x:AV} {K:AV→List AB→Prop} (h:deepK x L K) {v:Value} (hv:VR (rcOf c.M0 E L w) x v) :
  ∃ y L',K y L'∧SimH c E L' w∧(rcOf c.M0 E L w).le (rcOf c.M0 E L' w)∧VR (rcOf c.M0 E L' w) y v:=by
 unfold deepK at h
 split at h
 ·rename_i xs
  simp only [VR] at hv
  obtain ⟨us,rfl,hv⟩:=hv
  obtain ⟨ys,L',h1,h2,h3,h4⟩:=argsS_ok hc hs h hv
  exact ⟨_,L',h1,h2,h3,by simp only [VR];exact ⟨us,rfl,h4⟩⟩
 ·exact argK_ok hc hs h hv
theorem deepsK_ok {c:Ctx} (hc:c.wf) {E:Nat→Option Nat} {w:World}:∀ {xs:List AV} {L:List AB} {K:List AV→List AB→Prop} {us:List Value},SimH c E L w→deepsK xs L K→VRt (rcOf c.M0 E L w) xs us →
  ∃ ys L',K ys L'∧SimH c E L' w∧(rcOf c.M0 E L w).le (rcOf c.M0 E L' w)∧VRt (rcOf c.M0 E L' w) ys us
 | [],L,K,us,hs,h,hv=>⟨[],L,h,hs,.refl _,by simpa [VRt] using hv⟩
 | x :: xs,L,K,us,hs,h,hv=>by
   simp only [VRt] at hv
   obtain ⟨u,us',rfl,h1,h2⟩:=hv
   obtain ⟨y,L1,k1,k2,k3,k4⟩:=deepK_ok hc hs (show deepK x L fun y L1=>deepsK xs L1 fun l L2=>K (y :: l) L2 from h) h1
   obtain ⟨ys,L2,m1,m2,m3,m4⟩:=deepsK_ok hc (xs:=xs) k2 k1 (VRt.mono k3 _ _ h2)
   exact ⟨y :: ys,L2,m1,m2,k3.trans m3,by simp only [VRt];exact ⟨u,us',rfl,VR.mono m3 _ _ k4,m4⟩⟩
def dataK (x:AV) (L:List AB) (K:AV→List AB→Prop):Prop :=
 match x with
 | .tup xs=>deepsK xs L fun ys L'=>K (.tup ys) L'
 | x=>deepK x L K
theorem dataK_ok {c:Ctx} (hc:c.wf) {E:Nat→Option Nat} {L:List AB} {w:World} (hs:SimH c E L w) {x:AV} {K:AV→List AB→Prop} (h:dataK x L K) {v:Value} (hv:VR (rcOf c.M0 E L w) x v) :
  ∃ y L',K y L'∧SimH c E L' w∧(rcOf c.M0 E L w).le (rcOf c.M0 E L' w)∧VR (rcOf c.M0 E L' w) y v:=by
 unfold dataK at h
 split at h
 ·rename_i xs
  simp only [VR] at hv
  obtain ⟨us,rfl,hv⟩:=hv
  obtain ⟨ys,L',h1,h2,h3,h4⟩:=deepsK_ok hc hs h hv
  exact ⟨_,L',h1,h2,h3,by simp only [VR];exact ⟨us,rfl,h4⟩⟩
 ·exact deepK_ok hc hs h hv
theorem acalls_data {P:Program} {f:FuncId} {avs:List AV} {Lin:List AB} {post post':AV→List AB→Prop} (h:ACalls P f avs Lin post) (hp:∀ av L,post av L→dataK av L fun av' L'=>finK Lin.length av' L' post'):ACalls P f avs Lin post':=by
 intro c vs hc hL hs hv
 refine (h c vs hc hL hs hv).mono ?_
 rintro e w' ⟨v,av,L',E',rfl,k2,k3,k4⟩
 obtain ⟨y,L2,h1,h2,h3,h4⟩:=dataK_ok hc k3 (hp _ _ k2) k4
 obtain ⟨E3,av3,L3,m1,m2,m3⟩:=finK_ok h1 (by rw [hL]) h2 h4
 exact ⟨v,av3,L3,E3,rfl,m1,m2,m3⟩
end
end Go.Ab
namespace Go.Proofs.YtolkmjfkkkiboaaGreat
open Go.Ab Go.RowKit Go.MapKept
attribute [local irreducible] ACalls AW ADraw Into fltB fnear
set_option maxRecDepth 100000
theorem findIdx_at {l:List Cert} {p:Cert→Bool} {j:Nat} {c:Cert} (hc:l[j]? = some c) (hp:p c=true) (h:∀ (i:Nat) c,i<j→l[i]? = some c→p c=false):l.findIdx? p=some j:=by
 rw [List.findIdx?_eq_some_iff_getElem]
 have hj:=(List.getElem?_eq_some_iff.1 hc).1
 refine ⟨hj,?_,fun i hi => ?_⟩
 ·rw [List.getElem?_eq_getElem hj] at hc
  rw [Option.some.inj hc];exact hp
 ·have:=h i l[i] hi (List.getElem?_eq_getElem (by omega))
  simpa using this
theorem findIdx_no {l:List Cert} {p:Cert→Bool} (h:∀ (i:Nat) c,l[i]? = some c→p c=false):l.findIdx? p=none:=by
 rw [List.findIdx?_eq_none_iff]
 intro c hc
 obtain ⟨i,hi⟩:=List.getElem?_of_mem hc
 exact h i c hi
theorem elim_ge (o:Option Nat):(decide ((o.elim (-1) fun i=>(i:Int))≥0))=o.isSome:=by
 cases o<;>simp
theorem hasf_ok (c:Cert) (x:Int):ACalls Tryz.prog 228 [c.av,.ptr 0 0] [.cells [.d (.int .i64 x)]] (fun av L=>av = .d (.bool (c.digest == x))∧L=[.cells [.d (.int .i64 x)]]):=by
 (refine acalls_go ttOk zOk foOk Tryz.func228 rfl Tryz.ntmps228 rfl false rfl ?_);(conv=>whnf)
 exact ⟨rfl,rfl⟩
theorem indexH_ok (l:List Cert) (hl:few l) (x:Int):ACalls Tryz.prog 157 [.d (.sl 6 (certsD l)),.fn 228 [.ptr 0 0]] [.cells [.d (.int .i64 x)]] (fun av L=>av = .d (.int .i64 ((l.findIdx? (fun c=>c.digest == x)).elim (-1) fun i=>(i:Int)))∧L=[.cells [.d (.int .i64 x)]]):=by
 have hll:=certsD_length l
 unfold few at hl
 (refine acalls_go ttOk zOk foOk Tryz.func157 rfl Tryz.ntmps157 rfl false rfl ?_);(conv=>whnf)
 refine loop_go ttOk zOk foOk (σ:=Nat) (fun j=>([(1,.fn 228 [.ptr 0 0]),(0,.d (.sl 6 (certsD l))),(7,.d (.int .i64 l.length)),(8,.d (.int .i64 j))],[.cells [.d (.int .i64 x)]])) (fun j=>j≤l.length∧∀ i c,i<j→l[i]? = some c→(c.digest == x)=false) (fun j=>l.length - j) [1,0,7,8] ?_ ?_
 ·conv=>whnf
  exact ⟨0,by rw [hll];rfl,rfl,Nat.zero_le _,by omega⟩
 ·rintro j ⟨h1,h2⟩
  conv=>whnf
  refine rdw ?_;repeat' ((with_reducible apply tw)<;>intro _)
  ·rename_i h
   obtain ⟨c,hc⟩:∃ c,l[j]? = some c:=⟨_,List.getElem?_eq_getElem (by omega)⟩
   refine ⟨by omega,c.cs,certsD_at hc,?_⟩
   conv=>whnf
   refine (hasf_ok c x).mono ?_
   rintro _ _ ⟨rfl,rfl⟩
   obtain ⟨b,hb⟩:∃ b,(c.digest == x)=b:=⟨_,rfl⟩
   rw [hb]
   conv=>whnf
   refine rdw ?_;repeat' ((with_reducible apply tw)<;>intro _)
   ·rename_i h3
    subst h3
    exact ⟨by rw [findIdx_at hc hb h2];rfl,rfl⟩
   ·rename_i h3
    refine ⟨j+1,rfl,rfl,⟨by omega,fun i c' hi hc' => ?_⟩,by omega⟩
    rcases Nat.lt_or_ge i j with h4|h4
    ·exact h2 i c' h4 hc'
    ·obtain rfl:i=j:=by omega
     rw [hc] at hc';cases hc';rw [hb];simpa using h3
  ·rename_i h
   exact ⟨by rw [findIdx_no (l:=l) fun i c hi=>h2 i c (by have:=(List.getElem?_eq_some_iff.1 hi).1;omega) hi];rfl,rfl⟩
theorem containsH_ok (l:List Cert) (hl:few l) (x:Int):ACalls Tryz.prog 227 [.d (.sl 6 (certsD l)),.fn 228 [.ptr 0 0]] [.cells [.d (.int .i64 x)]] (fun av L=>av = .d (.bool (l.findIdx? (fun c=>c.digest == x)).isSome)∧L=[.cells [.d (.int .i64 x)]]):=by
 (refine acalls_go ttOk zOk foOk Tryz.func227 rfl Tryz.ntmps227 rfl false rfl ?_);(conv=>whnf)
 refine (indexH_ok l hl x).mono ?_
 rintro _ _ ⟨rfl,rfl⟩
 conv=>whnf
 exact ⟨by rw [← elim_ge],rfl⟩
theorem isSome_any {l:List Cert} {p:Cert→Bool}:(l.findIdx? p).isSome=l.any p:=by
 rw [Bool.eq_iff_iff,List.findIdx?_isSome]
theorem has_ok (l:List Cert) (hl:few l) (x:Int):ACalls Tryz.prog 193 [.d (.sl 6 (certsD l)),.d (.int .i64 x)] [] (fun av L=>av = .d (.bool (l.any fun c=>c.digest == x))∧L=[]):=by
 (refine acalls_go ttOk zOk foOk Tryz.func193 rfl Tryz.ntmps193 rfl false rfl ?_);(conv=>whnf)
 refine (containsH_ok l hl x).mono ?_
 rintro _ _ ⟨rfl,rfl⟩
 conv=>whnf
 exact ⟨by rw [← isSome_any],rfl⟩
theorem cloneC_ok (l:List Cert) (hl:l.length≤1099511627776):ACalls Tryz.prog 196 [.d (.sl 6 (certsD l))] [] (fun av L=>av = .arr 0∧L=[.row 47 6 (certsD l) false]):=by
 have hll:=certsD_length l
 (refine acalls_go ttOk zOk foOk Tryz.func196 rfl Tryz.ntmps196 rfl true rfl ?_);(conv=>whnf)
 intro b hb
 conv=>whnf
 refine rdw ?_;repeat' ((with_reducible apply tw)<;>intro _)
 ·rename_i h
  have:l=[]:=by simpa [certsD] using hb h
  subst this
  exact ⟨rfl,rfl⟩
 ·rename_i h
  refine ⟨by rw [hll];show (0+l.length) * 96≤_;omega,?_⟩
  conv=>whnf
  exact ⟨rfl,rfl⟩
theorem own_row (c:Cert) (h:c.tiny):ACalls Tryz.prog 144 [c.hav] [] (fun av L=>av = .agg [.d (.int .i64 c.author),.d (.int .i64 c.round),.arr 0,.arr 1]∧L=[.row 3 1 (nums c.bats) false,.row 3 1 (nums c.pars) false]):=by
 (refine acalls_go ttOk zOk foOk Tryz.func144 rfl Tryz.ntmps144 rfl true rfl ?_);(conv=>whnf)
 ((with_reducible refine draw_pl ttOk zOk foOk mixedOk pl144x1 ?_ ?_);(focus kernel_rfl);(conv=>whnf))
 refine rdw ?_;repeat' ((with_reducible apply tw)<;>intro _)
 refine (clone_ok c.bats h.bats).mono ?_
 rintro _ _ ⟨rfl,rfl⟩
 conv=>whnf
 refine rdw ?_;repeat' ((with_reducible apply tw)<;>intro _)
 refine (clone_ok c.pars h.pars).mono ?_
 rintro _ _ ⟨rfl,rfl⟩
 conv=>whnf
 refine rdw ?_;repeat' ((with_reducible apply tw)<;>intro _)
 exact ⟨rfl,rfl⟩
theorem ownCert_row (c:Cert) (h:c.tiny):ACalls Tryz.prog 180 [c.av] [] (fun av L=>av = .agg [.d (.int .i64 c.author),.d (.int .i64 c.round),.arr 0,.arr 1,.d (.int .i64 c.digest),.arr 2]∧L=[.row 3 1 (nums c.bats) false,.row 3 1 (nums c.pars) false,.row 3 1 (nums c.sigs) false]):=by
 (refine acalls_go ttOk zOk foOk Tryz.func180 rfl Tryz.ntmps180 rfl true rfl ?_);(conv=>whnf)
 ((with_reducible refine draw_pl ttOk zOk foOk mixedOk pl180x1 ?_ ?_);(focus kernel_rfl);(conv=>whnf))
 refine rdw ?_;repeat' ((with_reducible apply tw)<;>intro _)
 refine (own_row c h).mono ?_
 rintro _ _ ⟨rfl,rfl⟩
 conv=>whnf
 refine rdw ?_;repeat' ((with_reducible apply tw)<;>intro _)
 refine (clone_ok c.sigs h.sigs).mono ?_
 rintro _ _ ⟨rfl,rfl⟩
 conv=>whnf
 refine rdw ?_;repeat' ((with_reducible apply tw)<;>intro _)
 exact ⟨rfl,rfl⟩
theorem own_ok (c:Cert) (h:c.tiny):ACalls Tryz.prog 144 [c.hav] [] (fun av L=>av=c.hav∧L=[]):=by
 refine acalls_data (own_row c h) ?_
 rintro _ _ ⟨rfl,rfl⟩
 conv=>whnf
 exact ⟨rfl,rfl⟩
theorem ownCert_ok (c:Cert) (h:c.tiny):ACalls Tryz.prog 180 [c.av] [] (fun av L=>av=c.av∧L=[]):=by
 refine acalls_data (ownCert_row c h) ?_
 rintro _ _ ⟨rfl,rfl⟩
 conv=>whnf
 exact ⟨rfl,rfl⟩
theorem getC_no {l:List Cert} {x:Int} (h:∀ c∈l,c.digest≠x):getC l x=none:=by
 unfold getC
 rw [List.findIdx?_eq_none_iff]
 intro c hc
 simp [h c hc]
theorem getC_here {l:List Cert} {x:Int} {j:Nat} {c:Cert} (hc:l[j]? = some c) (hx:c.digest=x) (h:∀ c∈l.take j,c.digest≠x):getC l x=some j:=by
 unfold getC
 rw [List.findIdx?_eq_some_iff_getElem]
 obtain ⟨hj,rfl⟩:=List.getElem?_eq_some_iff.1 hc
 refine ⟨hj,by simpa using hx,fun i hi => ?_⟩
 have:=h l[i] (List.mem_take_iff_getElem.2 ⟨i,by omega,rfl⟩)
 simpa using this
theorem rFind_ok (d:Dag) (hd:few d.certs) (x:Int):ACalls Tryz.prog 112 [d.av,.d (.int .i64 x)] [] (fun av L=>av = .d (.int .i64 (getI d.certs x))∧L=[]):=by
 have hcl:=certsD_length d.certs
 unfold few at hd
 (refine acalls_go ttOk zOk foOk Tryz.func112 rfl Tryz.ntmps112 rfl false rfl ?_);(conv=>whnf)
 refine loop_go ttOk zOk foOk (σ:=Nat) (fun j=>([(1,.d (.int .i64 x)),(2,.ptr 0 0),(5,.d (.int .i64 j))],[.cells d.cells])) (fun j=>j≤d.certs.length∧∀ c∈d.certs.take j,c.digest≠x) (fun j=>d.certs.length - j) [1,2,5] ?_ ?_
 ·conv=>whnf
  exact ⟨0,rfl,rfl,Nat.zero_le _,by simp⟩
 ·rintro j ⟨hj,hall⟩
  conv=>whnf
  rw [hcl]
  refine rdz ?_;repeat' ((with_reducible apply tw)<;>intro _)
  ·rename_i h
   refine Exists.elim (⟨_,List.getElem?_eq_getElem (by omega)⟩:∃ c,d.certs[j]? = some c) fun c hc => ?_
   refine ⟨by omega,c.cs,certsD_at hc,?_⟩
   conv=>whnf
   refine rdz ?_;repeat' ((with_reducible apply tw)<;>intro _)
   ·rename_i h2
    rw [getI,getC_here hc h2 hall]
    exact ⟨rfl,rfl⟩
   ·rename_i h2
    refine ⟨j+1,rfl,rfl,⟨by omega,fun y hy => ?_⟩,by omega⟩
    rw [List.take_add_one,hc] at hy
    rcases List.mem_append.1 hy with hy|hy
    ·exact hall y hy
    ·simp at hy;rw [hy];exact h2
  ·rename_i h
   rw [List.take_of_length_le (by omega)] at hall
   rw [getI,getC_no hall]
   exact ⟨rfl,rfl⟩
def lackB (d:Dag) (r x:Int):Bool:=match certOf d x with|some c=>decide (c.round≠r - 1)|none=>true
def lacksI (d:Dag) (c:Cert):List Int:=if c.round - 1≤d.low then [] else c.pars.filter fun x=>lackB d c.round x
theorem rLacks_ok (d:Dag) (hd:few d.certs) (c:Cert) (hc:c.pars.length≤1099511627776) (hr:1≤c.round∧c.round≤1099511627776):ACalls Tryz.prog 70 [d.av,c.hav] [] (fun av L=>av = .d (.sl 1 (nums (lacksI d c)))∧L=[]):=by
 have hcl:=certsD_length d.certs
 have hpl:=nums_length c.pars
 (refine acalls_go ttOk zOk foOk Tryz.func70 rfl Tryz.ntmps70 rfl false rfl ?_);(conv=>whnf)
 refine rdw ?_;repeat' ((with_reducible apply tw)<;>intro _)
 ·rename_i h
  rw [lacksI,if_pos h]
  exact ⟨rfl,rfl⟩
 ·rename_i h
  rw [lacksI,if_neg h]
  refine loop_go ttOk zOk foOk (σ:=Nat) (fun j=>([(2,.ptr 0 0),(3,.ptr 1 0),(5,.arr 2),(6,.d (.int .i64 j))],[.cells d.cells,.cells c.hcells,.row 3 1 (nums ((c.pars.take j).filter fun x=>lackB d c.round x)) false])) (fun j=>j≤c.pars.length) (fun j=>c.pars.length - j) [2,3,5,6] ?_ ?_
  ·conv=>whnf
   exact ⟨0,rfl,rfl,Nat.zero_le _⟩
  ·intro j hj
   conv=>whnf
   rw [hpl]
   refine rdw ?_;repeat' ((with_reducible apply tw)<;>intro _)
   ·rename_i hjl
    refine Exists.elim (⟨_,List.getElem?_eq_getElem (by omega)⟩:∃ x,c.pars[j]? = some x) fun x hx => ?_
    ((with_reducible refine draw_pl ttOk zOk foOk mixedOk pl70x7 ?_ ?_);(focus kernel_rfl);(conv=>whnf))
    refine rdw ?_;repeat' ((with_reducible apply tw)<;>intro _)
    ((with_reducible apply rd_intro);(focus (intro K hK;(conv=>whnf);exact ⟨by omega,[.int .i64 x],nums_at hx,hK⟩));(conv=>whnf))
    refine rdw ?_;repeat' ((with_reducible apply tw)<;>intro _)
    refine (rFind_ok d hd x).mono ?_
    rintro _ _ ⟨rfl,rfl⟩
    conv=>whnf
    refine rdw ?_;repeat' ((with_reducible apply tw)<;>intro _)
    have hsn:∀ b,lackB d c.round x=b→(c.pars.take (j+1)).filter (fun x=>lackB d c.round x)=(c.pars.take j).filter (fun x=>lackB d c.round x)++(if b then [x] else []):=by
     intro b hb
     rw [List.take_add_one,hx]
     simp only [Option.toList_some,List.filter_append,List.filter_cons,hb]
     cases b<;>rfl
    have hfl:((c.pars.take j).filter (fun x=>lackB d c.round x)).length≤j:=by
     have h1:=List.length_filter_le (fun x=>lackB d c.round x) (c.pars.take j)
     rw [List.length_take] at h1
     omega
    have hfn:=nums_length ((c.pars.take j).filter (fun x=>lackB d c.round x))
    cases hg:getC d.certs x with
    | none =>
      rw [show getI d.certs x = -1 by rw [getI,hg];rfl]
      have hlb:lackB d c.round x=true:=by rw [lackB,certOf,hg];rfl
      conv=>whnf
      refine rdw ?_;repeat' ((with_reducible apply tw)<;>intro _)
      ((with_reducible refine draw_pl ttOk zOk foOk mixedOk pl70x8 ?_ ?_);(focus kernel_rfl);(conv=>whnf))
      refine rdw ?_;repeat' ((with_reducible apply tw)<;>intro _)
      refine ⟨by omega,[.int .i64 x],nums_at hx,?_⟩
      conv=>whnf
      refine rdw ?_;repeat' ((with_reducible apply tw)<;>intro _)
      refine ⟨by simp [hfn];omega,?_⟩
      conv=>whnf
      refine rdw ?_;repeat' ((with_reducible apply tw)<;>intro _)
      refine ⟨j+1,rfl,?_,by omega,by omega⟩
      rw [hsn _ hlb,← nums_apps]
      rfl
    | some k =>
      obtain ⟨c',hc',hd'⟩:=getC_some hg
      rw [show getI d.certs x=(k:Int) by rw [getI,hg];rfl]
      have hlb:lackB d c.round x=decide (c'.round≠c.round - 1):=by rw [lackB,certOf,hg,Option.bind_some,hc']
      have hkl:=(List.getElem?_eq_some_iff.1 hc').1
      conv=>whnf
      refine rdw ?_;repeat' ((with_reducible apply tw)<;>intro _)
      ((with_reducible refine draw_pl ttOk zOk foOk mixedOk pl70x8 ?_ ?_);(focus kernel_rfl);(conv=>whnf))
      refine rdw ?_;repeat' ((with_reducible apply tw)<;>intro _)
      ((with_reducible apply rd_intro);(focus (intro K hK;(conv=>whnf);exact ⟨by omega,c'.cs,certsD_at hc',hK⟩));(conv=>whnf))
      refine rdw ?_;repeat' ((with_reducible apply tw)<;>intro _)
      ·rename_i h1
       rw [decide_eq_true (by omega)] at hlb
       refine ⟨by omega,[.int .i64 x],nums_at hx,?_⟩
       conv=>whnf
       refine rdw ?_;repeat' ((with_reducible apply tw)<;>intro _)
       refine ⟨by simp [hfn];omega,?_⟩
       conv=>whnf
       refine rdw ?_;repeat' ((with_reducible apply tw)<;>intro _)
       refine ⟨j+1,rfl,?_,by omega,by omega⟩
       rw [hsn _ hlb,← nums_apps]
       rfl
      ·rename_i h1
       rw [decide_eq_false (by omega)] at hlb
       refine ⟨j+1,rfl,?_,by omega,by omega⟩
       rw [hsn _ hlb];simp [Dag.cells,Cert.hcells]
   ·rename_i hjl
    rw [List.take_of_length_le (by omega)]
    exact ⟨rfl,rfl⟩
end Go.Proofs.YtolkmjfkkkiboaaGreat
namespace Go.Proofs.YtolkmjfkkkiboaaGreat
open Go Go.Ab Go.RowKit Go.Lib Go.Proofs Go.Shelf
set_option maxRecDepth 100000
theorem insCert_shift (b n c i vb vc:Nat) (cs vs:List Value) {cur curv:Array Value} (w:World) (hi:i<n) (hroom:n+1≤c) (hc63:c≤9223372036854775807) (hvb:vb≠b)
  (hcur:w.heap[b]? = some (.cells cur 47 (0,0))) (hsz:cur.size=c * 6) (hcv:w.heap[vb]? = some (.cells curv 47 (0,0))) (hvl:curv.toList.take 6=vs) (hv6:vs.length=6)
  (hcs:cur.toList.take (n * 6)=cs) (h1c:∀ v∈cs,v.oneCell'=true) (h1v:∀ v∈vs,v.oneCell'=true) :
  Calls Tryz.prog 195 #[.slice (some ⟨b,0,none⟩) n c,.int .i64 i,.slice (some ⟨vb,0,none⟩) 1 vc] w fun e w' =>
   e = .returned (.slice (some ⟨b,0,none⟩) (n+1) c)∧∃ (cur':Array Value) (w1:World),Keeps w w1∧w'=w1.setRow b cur'∧cur'.size=cur.size∧cur'.toList.take ((n+1) * 6)=cs.take (i * 6)++vs++cs.drop (i * 6):=by
 have t0:=Tryz.underlying0;have a0:=Tryz.isAgg0;have z0:=Tryz.sizeOf0;have v0:=Tryz.zeroValue0
 have t3:=Tryz.underlying3;have a3:=Tryz.isAgg3;have z3:=Tryz.sizeOf3;have v3:=Tryz.zeroValue3
 have t4:=Tryz.underlying4;have a4:=Tryz.isAgg4;have z4:=Tryz.sizeOf4;have v4:=Tryz.zeroValue4
 have t22:=Tryz.underlying26;have a22:=Tryz.isAgg26;have z22:=Tryz.sizeOf26;have v22:=Tryz.zeroValue26
 have t68:=Tryz.underlying47;have a68:=Tryz.isAgg47;have z68:=Tryz.sizeOf47;have v68:=Tryz.zeroValue47
 have u0:=run_underlying t0;have u3:=run_underlying t3;have u4:=run_underlying t4;have u22:=run_underlying t22;have u68:=run_underlying t68
 have mixed:=mixedOk
 have hz2:¬((i:Int)=(n:Int)):=by omega
 have hin:i≤n:=by omega
 have hw1:IntKind.i64.wrap ((i:Int)+1)=(i:Int)+1:=by rw [IntKind.wrap_i64];omega
 have hwn:IntKind.i64.wrap ((n:Int)+1)=(n:Int)+1:=by rw [IntKind.wrap_i64];omega
 have hb1:(0:Int)≤(i:Int)+1:=by omega
 have htn:((i:Int)+1).toNat=i+1:=by omega
 have hnn:((n:Int)+1).toNat=n+1:=by omega
 have hb2:¬(c=i+1):=by omega
 have hb3:(i:Int)≤(n:Int)+1:=by omega
 have hb4:¬(c=i):=by omega
 have hb5:¬((n:Int)+1>(c:Int)):=by omega
 have hshv:w.shape? vb=some (47,curv.size):=by simp [World.shape?,hcv]
 have hshb:w.shape? b=some (47,cur.size):=by simp [World.shape?,hcur]
 have hfr:∀ o,w.frozen? ⟨vb,o,none⟩=false:=fun o=>by simp [World.frozen?,hcv]
 have hcs0:cur.size≠0:=by omega
 have hov:∀ lb cb,(callFunc 229 #[.slice (some ⟨vb,0,none⟩) 1 vc,.slice (some ⟨b,(i+1) * 6,none⟩) lb cb]).run Tryz.prog w = .ok (.value (.bool false)) w:=fun lb cb=>by
  rw [run_callFunc_extern Tryz.func229 (by kernel_rfl) (by kernel_rfl) (by kernel_rfl) (e:=Extern.SlicesOverlaps.overlaps #[26,26] #[4]) (by kernel_rfl),
   Lib.run_overlaps_apart w 26 4 47 t22 6 z68 ⟨vb,0,none⟩ ⟨b,(i+1) * 6,none⟩ 1 vc lb cb hvb 47 47 curv.size cur.size hshv hshb hcs0 (hfr _) (hfr _)]
  rfl
 have hcl:cs.length=n * 6:=by rw [← hcs,List.length_take,Array.length_toList,hsz];exact Nat.min_eq_left (Nat.mul_le_mul_right _ (by omega))
 have hul:(cs.drop (i * 6)).length=(n - i) * 6:=by rw [List.length_drop,hcl,Nat.sub_mul]
 obtain ⟨cur1,hc1⟩:∃ cur1:Array Value,(cur.toList.take ((i+1) * 6)++cs.drop (i * 6)++cur.toList.drop ((i+1) * 6+(cs.drop (i * 6)).length)).toArray=cur1:=⟨_,rfl⟩
 have hil:=ins_list cur.toList vs (i * 6) (n * 6) 6 (Nat.mul_le_mul_right _ hin) (by rw [Array.length_toList,hsz];omega) hv6 cur1.toList (by rw [← hc1,hcs,Nat.add_mul,Nat.one_mul])
 obtain ⟨cur2,hc2⟩:∃ cur2:Array Value,(cur1.toList.take (i * 6)++vs++cur1.toList.drop (i * 6+vs.length)).toArray=cur2:=⟨_,rfl⟩
 have hl1:cur1.size=cur.size:=by have:=hil.2.2;simpa using this
 have hcp1:∀ ty dc sc,(Builtin.copy_ #[26,26] ty #[.slice (some ⟨b,(i+1) * 6,none⟩) (n - i) dc,.slice (some ⟨b,i * 6,none⟩) (n+1 - i) sc]).run Tryz.prog w.drew = .ok (goInt (n - i:Nat)) (w.drew.setRow b cur1):=fun ty dc sc=>by
  have:=run_copy_cellsK (P:=Tryz.prog) w.drew 26 26 ty 47 6 b ((i+1) * 6) (n - i) dc ⟨b,i * 6,none⟩ (n+1 - i) sc (n - i) (cs.drop (i * 6)) (cur:=cur) t22 z68 (Nat.min_eq_right (by omega)) hul
   (fun j v hj=>by
     rw [add_lit _ rfl,show w.drew.cell? ⟨b,i * 6+j,none⟩=w.cell? ⟨b,i * 6+j,none⟩ from rfl,cell_of_row w b _ cur _ _ hcur]
     rw [List.getElem?_drop,← hcs,List.getElem?_take] at hj
     split at hj
     ·simpa using hj
     ·cases hj) hcur (by rw [hul,hsz];omega) (fun v hv=>h1c v (List.mem_of_mem_drop hv))
  rw [hc1] at this
  exact this
 have hcp2:∀ (W:World),(∀ x:Nat,W.heap[x]? = (w.drew.setRow b cur1).heap[x]?)→∀ ty dc,(Builtin.copy_ #[26,26] ty #[.slice (some ⟨b,i * 6,none⟩) (n+1 - i) dc,.slice (some ⟨vb,0,none⟩) 1 vc]).run Tryz.prog W = .ok (goInt (1:Nat)) (W.setRow b cur2):=fun W hW ty dc=>by
  have:=run_copy_cellsK (P:=Tryz.prog) W 26 26 ty 47 6 b (i * 6) (n+1 - i) dc ⟨vb,0,none⟩ 1 vc 1 vs (cur:=cur1) (e:=47) t22 z68 (Nat.min_eq_left (by omega)) (by rw [hv6])
   (fun j v hj=>by
     rw [add_lit _ rfl,Nat.zero_add]
     have h1:W.cell? ⟨vb,j,none⟩=(w.drew.setRow b cur1).cell? ⟨vb,j,none⟩:=by simp only [World.cell?,hW]
     rw [h1,cell_setRow_other _ _ _ _ hvb,show w.drew.cell? ⟨vb,j,none⟩=w.cell? ⟨vb,j,none⟩ from rfl,cell_of_row w vb _ curv _ _ hcv]
     rw [← hvl,List.getElem?_take] at hj
     split at hj
     ·simpa using hj
     ·cases hj) (by rw [hW];exact setRow_heap _ _ _ _ _ _ hcur) (by rw [hv6,hl1,hsz];omega) h1v
  rw [hc2] at this
  exact this
 clear hc1 hul hcl
 go_enter Tryz.func195,Tryz.ntmps195
 go_wp2_with (simp only [hov])
 go_region_law_o (refine step_copy_runI rfl _ _ 26 26 rfl (.slice (some ⟨b,(i+1) * 6,none⟩) (n - i) (c - (i+1))) (.slice (some ⟨b,i * 6,none⟩) (n+1 - i) (c - i)) (by simp [Act.eval,Act.put]) (by simp [Act.eval,Act.put]) (hcp1 _ _ _) ?_)
 go_wp2_with (at_builtin;refine wpList_copy_runI _ rfl _ _ 26 26 rfl _ _ rfl rfl (hcp2 _ (fun _=>rfl) _ _) ?_)
 go_ret
 refine ⟨rfl,cur2,w.drew,Keeps.drew w,setRow_setRow _ _ _ _,?_,?_⟩
 ·have:=hil.2.1
  rw [← hc2]
  simpa using this
 ·rw [Nat.add_mul,Nat.one_mul,← hc2]
  have:=hil.1
  rw [hcs] at this
  exact this
set_option maxHeartbeats 4000000 in
theorem insCert_grow (b n c i vb vc:Nat) (cs vs:List Value) {cur curv:Array Value} (w:World) (hi:i<n) (hnc:n≤c) (hroom:c<n+1) (hbig:(n+1) * 8192≤140737488355328) (hvb:vb≠b)
  (hcur:w.heap[b]? = some (.cells cur 47 (0,0))) (hsz:cur.size=c * 6) (hcv:w.heap[vb]? = some (.cells curv 47 (0,0))) (hvl:curv.toList.take 6=vs) (hv6:vs.length=6)
  (hcs:cur.toList.take (n * 6)=cs) (h1c:∀ v∈cs,v.oneCell'=true) (h1v:∀ v∈vs,v.oneCell'=true) :
  Calls Tryz.prog 195 #[.slice (some ⟨b,0,none⟩) n c,.int .i64 i,.slice (some ⟨vb,0,none⟩) 1 vc] w fun e w' =>
   ∃ (cur':Array Value) (G:Nat),e = .returned (.slice (some ⟨w.heap.size,0,none⟩) (n+1) G)∧Keeps w w'∧w'.heap[w.heap.size]? = some (.cells cur' 47 (0,0))∧cur'.size=G * 6∧n+1≤G∧G≤maxLen∧cur'.toList.take ((n+1) * 6)=cs.take (i * 6)++vs++cs.drop (i * 6):=by
 have t0:=Tryz.underlying0;have a0:=Tryz.isAgg0;have z0:=Tryz.sizeOf0;have v0:=Tryz.zeroValue0
 have t3:=Tryz.underlying3;have a3:=Tryz.isAgg3;have z3:=Tryz.sizeOf3;have v3:=Tryz.zeroValue3
 have t4:=Tryz.underlying4;have a4:=Tryz.isAgg4;have z4:=Tryz.sizeOf4;have v4:=Tryz.zeroValue4
 have t22:=Tryz.underlying26;have a22:=Tryz.isAgg26;have z22:=Tryz.sizeOf26;have v22:=Tryz.zeroValue26
 have t68:=Tryz.underlying47;have a68:=Tryz.isAgg47;have z68:=Tryz.sizeOf47;have v68:=Tryz.zeroValue47
 have u0:=run_underlying t0;have u3:=run_underlying t3;have u4:=run_underlying t4;have u22:=run_underlying t22;have u68:=run_underlying t68
 have mixed:=mixedOk
 obtain ⟨ti,htt⟩:∃ ti,tt 47=some ti:=⟨_,rfl⟩
 have htb:ti.bytes≤8192:=by cases htt;decide
 have hti:ti.size=6:=by cases htt;rfl
 obtain ⟨_,info,k1,k2,k3,k4⟩:=ttOk 47 ti htt
 have hzc:=zOk 47 ti htt
 rw [hti] at hzc k3
 clear htt
 have hcl:cs.length=n * 6:=by rw [← hcs,List.length_take,Array.length_toList,hsz];exact Nat.min_eq_left (Nat.mul_le_mul_right _ (by omega))
 have hul:(cs.drop (i * 6)).length=(n - i) * 6:=by rw [List.length_drop,hcl,Nat.sub_mul]
 have hbw:b<w.heap.size:=(Array.getElem?_eq_some_iff.1 hcur).1
 have hvw:vb<w.heap.size:=(Array.getElem?_eq_some_iff.1 hcv).1
 have hold:(Builtin.firstCells info.size i (.slice (some ⟨b,0,none⟩) i c)).run Tryz.prog w.drew = .ok (cs.take (i * 6)).toArray w.drew :=
  run_firstCells_some w.drew info.size i ⟨b,0,none⟩ i c (cs.take (i * 6)) (by rw [List.length_take,hcl,k3];exact Nat.min_eq_left (Nat.mul_le_mul_right _ (by omega))) (fun j v hj=>by
   rw [add_lit _ rfl,Nat.zero_add,show w.drew.cell? ⟨b,j,none⟩=w.cell? ⟨b,j,none⟩ from rfl,cell_of_row w b _ cur _ _ hcur]
   rw [← hcs,List.getElem?_take] at hj
   split at hj
   ·rw [List.getElem?_take] at hj
    split at hj
    ·simpa using hj
    ·cases hj
   ·cases hj)
 have hby:(n+1) * info.bytes≤140737488355328:=Nat.le_trans (Nat.mul_le_mul_left _ (by rw [k4];exact htb)) hbig
 have hkk:(n:Int)+1 - (i:Int)=((n+1 - i:Nat):Int):=by omega
 have hik:i+(n+1 - i)=n+1:=by omega
 obtain ⟨G,hG⟩:∃ G,G=grownCap w (n+1) c 47:=⟨_,rfl⟩
 obtain ⟨ROW,hROW⟩:∃ ROW:Array Value,ROW=(cs.take (i * 6)).toArray++Builtin.zeroCells ti.zero.cells (n+1 - i)++Builtin.zeroCells ti.zero.cells (G - (n+1)):=⟨_,rfl⟩
 have hrz:∀ ty,(Builtin.append_ #[26,3] ty #[.slice (some ⟨b,0,none⟩) i c,.int .i64 ((n:Int)+1 - (i:Int))]).run Tryz.prog w =
   .ok (.slice (some ⟨w.heap.size,0,none⟩) (n+1) G) (w.drew.alloc (.cells ROW 47)):=fun ty=>by
  have h:=Lib.run_append_grow_zeros w 26 3 ty 47 info _ .i64 .i64 t22 t3 k1 k2 (some ⟨b,0,none⟩) i c (cs.take (i * 6)) hold (n+1 - i) (by omega) (by omega) (by omega) (by omega) (Nat.le_trans (Nat.mul_le_mul_right _ (by omega)) (Nat.le_trans hby (by decide))) (by rw [hik];exact growslice_fits hroom hby)
  rw [hik,← hG,← hROW] at h
  rw [hkk]
  exact h
 have hGn:n+1≤G:=by rw [hG];exact grownCap_ge w _ _ _
 have hGm:G≤maxLen:=by
  rw [hG]
  exact grownCap_le_maxLen w (n+1) c 47 (by unfold maxLen;omega)
 have hG63:G≤9223372036854775807:=by unfold maxLen at hGm;omega
 have hRs:ROW.size=G * 6:=by
  rw [hROW]
  simp only [Array.size_append,size_zeroCells,List.size_toArray,List.length_take,hcl,hzc]
  rw [Nat.min_eq_left (Nat.mul_le_mul_right _ (by omega:i≤n)),← Nat.add_mul,← Nat.add_mul]
  congr 1
  omega
 have hRt:ROW.toList.take (i * 6)=cs.take (i * 6):=by
  rw [hROW,Array.toList_append,Array.toList_append,List.append_assoc,List.take_append_of_le_length (by simp [hcl];omega),List.take_of_length_le (by simp;omega)]
 obtain ⟨R1,hR1⟩:∃ R1:Array Value,(ROW.toList.take (i * 6)++vs++ROW.toList.drop (i * 6+vs.length)).toArray=R1:=⟨_,rfl⟩
 obtain ⟨R2,hR2⟩:∃ R2:Array Value,(R1.toList.take ((i+1) * 6)++cs.drop (i * 6)++R1.toList.drop ((i+1) * 6+(cs.drop (i * 6)).length)).toArray=R2:=⟨_,rfl⟩
 have hil:=ins_list2 ROW.toList vs (cs.drop (i * 6)) _ (i * 6) (n * 6) 6 (Nat.mul_le_mul_right _ (by omega)) (by rw [Array.length_toList,hRs];omega) hv6 (by rw [hul,Nat.sub_mul]) hRt
 have hl1:R1.size=G * 6:=by rw [← hRs,← hR1];simpa using hil.2.2
 have e1:R1.toList=ROW.toList.take (i * 6)++vs++ROW.toList.drop (i * 6+vs.length):=by rw [← hR1]
 rw [← e1,show i * 6+6=(i+1) * 6 by omega] at hil
 have hl2:R2.size=G * 6:=by rw [← hRs,← hR2];simpa using hil.2.1
 have hr2:R2.toList.take ((n+1) * 6)=cs.take (i * 6)++vs++cs.drop (i * 6):=by
  rw [← hR2,show (n+1) * 6=n * 6+6 by omega]
  exact hil.1
 have hnew:(w.drew.alloc (.cells ROW 47)).heap[w.heap.size]? = some (.cells ROW 47 (0,0)):=heap_alloc_new w.drew _
 have hvbN:vb≠w.heap.size:=by omega
 have hbN:b≠w.heap.size:=by omega
 have hcpA:∀ (W:World),(∀ x:Nat,W.heap[x]? = (w.drew.alloc (.cells ROW 47)).heap[x]?)→∀ ty dc,(Builtin.copy_ #[26,26] ty #[.slice (some ⟨w.heap.size,i * 6,none⟩) (n+1 - i) dc,.slice (some ⟨vb,0,none⟩) 1 vc]).run Tryz.prog W = .ok (goInt (1:Nat)) (W.setRow w.heap.size R1):=fun W hW ty dc=>by
  have:=run_copy_cellsK (P:=Tryz.prog) W 26 26 ty 47 6 w.heap.size (i * 6) (n+1 - i) dc ⟨vb,0,none⟩ 1 vc 1 vs (cur:=ROW) (e:=47) t22 z68 (Nat.min_eq_left (by omega)) (by rw [hv6])
   (fun j v hj=>by
     rw [add_lit _ rfl,Nat.zero_add]
     have h1:W.cell? ⟨vb,j,none⟩=(w.drew.alloc (.cells ROW 47)).cell? ⟨vb,j,none⟩:=by simp only [World.cell?,hW]
     rw [h1]
     refine (Keeps.alloc w.drew _).cell ?_
     rw [show w.drew.cell? ⟨vb,j,none⟩=w.cell? ⟨vb,j,none⟩ from rfl,cell_of_row w vb _ curv _ _ hcv]
     rw [← hvl,List.getElem?_take] at hj
     split at hj
     ·simpa using hj
     ·cases hj) (by rw [hW];exact hnew) (by rw [hv6,hRs];omega) h1v
  rw [hR1] at this
  exact this
 have hcpB:∀ (W:World),(∀ x:Nat,W.heap[x]? = ((w.drew.alloc (.cells ROW 47)).setRow w.heap.size R1).heap[x]?)→∀ ty dc sc,(Builtin.copy_ #[26,26] ty #[.slice (some ⟨w.heap.size,(i+1) * 6,none⟩) (n - i) dc,.slice (some ⟨b,i * 6,none⟩) (n - i) sc]).run Tryz.prog W = .ok (goInt (n - i:Nat)) (W.setRow w.heap.size R2):=fun W hW ty dc sc=>by
  have:=run_copy_cellsK (P:=Tryz.prog) W 26 26 ty 47 6 w.heap.size ((i+1) * 6) (n - i) dc ⟨b,i * 6,none⟩ (n - i) sc (n - i) (cs.drop (i * 6)) (cur:=R1) (e:=47) t22 z68 (Nat.min_self _) hul
   (fun j v hj=>by
     rw [add_lit _ rfl]
     have h1:W.cell? ⟨b,i * 6+j,none⟩=((w.drew.alloc (.cells ROW 47)).setRow w.heap.size R1).cell? ⟨b,i * 6+j,none⟩:=by simp only [World.cell?,hW]
     rw [h1,cell_setRow_other _ _ _ _ hbN]
     refine (Keeps.alloc w.drew _).cell ?_
     rw [show w.drew.cell? ⟨b,i * 6+j,none⟩=w.cell? ⟨b,i * 6+j,none⟩ from rfl,cell_of_row w b _ cur _ _ hcur]
     rw [List.getElem?_drop,← hcs,List.getElem?_take] at hj
     split at hj
     ·simpa using hj
     ·cases hj) (by rw [hW];exact setRow_heap _ _ _ _ _ _ hnew) (by rw [hul,hl1];omega) (fun v hv=>h1c v (List.mem_of_mem_drop hv))
  rw [hR2] at this
  exact this
 have hw1:IntKind.i64.wrap ((i:Int)+1)=(i:Int)+1:=by rw [IntKind.wrap_i64];omega
 have hwn:IntKind.i64.wrap ((n:Int)+1)=(n:Int)+1:=by rw [IntKind.wrap_i64];omega
 have hws:IntKind.i64.wrap ((n:Int)+1 - i)=(n:Int)+1 - i:=by rw [IntKind.wrap_i64];omega
 have hb1:(0:Int)≤(i:Int)+1:=by omega
 have htn:((i:Int)+1).toNat=i+1:=by omega
 have hz2:¬((i:Int)=(n:Int)):=by omega
 have hin:i≤n:=by omega
 have hb3:(i:Int)≤(n:Int):=by omega
 have hb5:(c:Int)<(n:Int)+1:=by omega
 have hGi:¬(G=i):=by omega
 have hGim:¬(G=i+1):=by omega
 have hci:¬(c=i):=by omega
 clear hkk hik hold hROW hG hRt hRs hR1 hR2 hil hl1 e1
 have hcpA':∀ dc,(Builtin.copy_ #[26,26] 3 #[.slice (some ⟨w.heap.size,i * 6,none⟩) (n+1 - i) dc,.slice (some ⟨vb,0,none⟩) 1 vc]).run Tryz.prog (w.alloc (.cells ROW 47)).drew = .ok (goInt (1:Nat)) ((w.alloc (.cells ROW 47)).drew.setRow w.heap.size R1):=fun dc=>hcpA _ (fun _=>rfl) _ _
 have hcpB':=hcpB ((w.alloc (.cells ROW 47)).drew.setRow w.heap.size R1).drew (fun _=>rfl) 3 (G - (i+1)) (c - i)
 go_enter Tryz.func195,Tryz.ntmps195
 go_wp2_with (first
  | (at_builtin;refine Lib.wpList_append_run _ rfl _ _ _ _ rfl _ _ rfl rfl _ _ (hrz _) ?_)
  | simp only [hcpA'])
 go_region_law_o (refine step_copy_runI rfl _ _ 26 26 rfl (.slice (some ⟨w.heap.size,(i+1) * 6,none⟩) (n - i) (G - (i+1))) (.slice (some ⟨b,i * 6,none⟩) (n - i) (c - i)) (by simp [Act.eval,Act.put]) (by simp [Act.eval,Act.put]) hcpB' ?_)
 go_wp2
 go_ret
 exact ⟨R2,G,rfl,(((Keeps.alloc w _).trans (Keeps.drew _)).setNew _ (Nat.le_refl _) _).trans (Keeps.drew _) |>.setNew _ (Nat.le_refl _) _,setRow_heap _ _ _ _ _ _ (setRow_heap _ _ _ _ _ _ hnew),hl2,hGn,hGm,hr2⟩
theorem insertCert_in (l:List (List DV)) (x:List DV) (i:Nat) (hi:i<l.length) (hl:l.length≤4294967296):ACalls Tryz.prog 195 [.arr 0,.d (.int .i64 i),.arr 1] [.row 47 6 l false,.row 47 6 [x] false] (fun av L=>av = .arr 2∧L=[.dead,.row 47 6 [x] false,.row 47 6 (l.take i++x :: l.drop i) false]):=by
 intro c vs hc hL0 hs hv
 simp only [VRt,VR,VD] at hv
 obtain ⟨u0,r0,hvs,⟨ab0,hab0,har0⟩,u1,r1,rfl,hu1,u2,r2,rfl,⟨ab2,hab2,har2⟩,rfl⟩:=hv
 simp only [List.getElem?_cons_zero,List.getElem?_cons_succ,Option.some.injEq] at hab0 hab2
 subst hab0;subst hab2;subst hu1
 have hvs':vs = #[u0,.int .i64 i,u2]:=by rw [← Array.toArray_toList (xs:=vs),hvs]
 rw [hvs']
 have hb0:=hs.blk 0 _ rfl
 have hb1:=hs.blk 1 _ rfl
 obtain ⟨_,hxl,hb1⟩:=hb1
 obtain ⟨_,hll,hb0⟩:=hb0
 have hx6:x.length=6:=hxl x (by simp)
 cases hE1:c.E0 1 with
 | none=>rw [hE1] at hb1;cases hb1
 | some vb =>
 cases hE:c.E0 0 with
 | none =>
   rw [hE] at hb0
   have hb0:l=[]:=hb0
   subst hb0
   simp at hi
 | some b =>
 rw [hE] at hb0
 rw [hE1] at hb1
 simp only [arRel,hE,hE1] at har0 har2
 obtain ⟨cap,cur,rfl,hh,hsz⟩:=har0
 obtain ⟨vc,curv,rfl,hhv,hszv⟩:=har2
 obtain ⟨cap',cur',hh',hsz',hcap,hmax,hvd⟩:=hb0
 rw [hh] at hh';cases hh'
 obtain rfl:cap=cap':=by omega
 obtain ⟨vc',curv',hhv',hszv',hvcap,_,hvdv⟩:=hb1
 rw [hhv] at hhv';cases hhv'
 have hne:vb≠b:=by
  rintro rfl
  have:=hs.inj 1 0 _ _ _ rfl rfl rfl rfl hE1 hE
  cases this
 simp only [List.length_cons,List.length_nil,Nat.zero_add,Nat.one_mul,List.flatten_cons,List.flatten_nil,List.append_nil] at hvdv hvcap ⊢
 have h1c:=Cs_one hvd
 have h1v:=Cs_one hvdv
 have hv6:(curv.toList.take 6).length=6:=by rw [Cs_length hvdv,hx6]
 have hzl:(l.take i++x :: l.drop i).length=l.length+1:=by simp;omega
 have hzn:∀ cs∈l.take i++x :: l.drop i,cs.length=6:=by
  intro cs hcs
  rcases List.mem_append.1 hcs with h|h
  ·exact hll cs (List.mem_of_mem_take h)
  ·rcases List.mem_cons.1 h with rfl|h
   ·exact hx6
   ·exact hll cs (List.mem_of_mem_drop h)
 have hnew:VDs (rcOf c.M0 c.E0 [AB.row 47 6 l false,AB.row 47 6 [x] false] c.w0).rd (l.take i++x :: l.drop i).flatten ((cur.toList.take (l.length * 6)).take (i * 6)++curv.toList.take 6++(cur.toList.take (l.length * 6)).drop (i * 6)):=by
  rw [List.flatten_append,List.flatten_cons,flatten_takeN l hll,flatten_dropN l hll,← List.append_assoc]
  exact Cs_append (Cs_append (Cs_take _ hvd) hvdv) (Cs_drop _ hvd)
 by_cases hroom:l.length+1≤cap
 ·refine (insCert_shift b l.length cap i vb vc _ _ c.w0 hi hroom (by unfold maxLen at hmax;omega) hne hh hsz hhv rfl hv6 rfl h1c h1v).mono ?_
  rintro e w' ⟨rfl,cur2,w1,kk,rfl,hs2,ht2⟩
  have hblt:=hs.lt (i:=0) rfl rfl hE
  obtain ⟨hs3,hle3⟩:=(hs.keeps hc kk).turn (i:=0) (zs:=l.take i++x :: l.drop i) rfl hE (cur':=cur2) (by rw [kk.block b hblt];exact hh) hs2 (by rw [hzl,hsz];exact Nat.mul_le_mul_right _ hroom) hzn (by
   rw [hzl,ht2]
   exact VDs.mono (le_keeps hs.bl kk).rd hnew)
  refine ⟨_,.arr 2,_,_,rfl,⟨rfl,rfl⟩,hs3,?_⟩
  simp only [VR]
  refine ⟨_,rfl,?_⟩
  simp only [arRel,Eupd]
  exact ⟨cap,cur2,by rw [hzl],setRow_heap _ _ _ _ _ _ (by rw [kk.block b hblt];exact hh),by rw [hs2];exact hsz⟩
 ·refine (insCert_grow b l.length cap i vb vc _ _ c.w0 hi hcap (by omega) (by omega) hne hh hsz hhv rfl hv6 rfl h1c h1v).mono ?_
  rintro e w' ⟨cur2,G,rfl,kk,hh2,hs2,hG1,hG2,ht2⟩
  obtain ⟨hk,hkle⟩:=hs.kill (i:=0) rfl
  obtain ⟨hs3,hle3⟩:=hk.newRow hc kk (e:=47) (xs:=l.take i++x :: l.drop i) false (by exact ⟨by decide,rfl⟩) hzn hh2 hs2 (by rw [hzl];exact hG1) hG2 (by
   rw [hzl,ht2]
   exact VDs.mono hkle.rd hnew)
  refine ⟨_,.arr 2,_,_,rfl,⟨rfl,rfl⟩,hs3,?_⟩
  simp only [VR]
  refine ⟨_,rfl,?_⟩
  simp only [arRel,Eupd]
  exact ⟨G,cur2,by rw [hzl],hh2,hs2⟩
theorem insertCert_end (l:List (List DV)) (hll:∀ cs∈l,cs.length=6) (x:List DV) (hx:x.length=6) (hl:l.length≤4294967296):ACalls Tryz.prog 195 [.arr 0,.d (.int .i64 l.length),.arr 1] [.row 47 6 l false,.row 47 6 [x] false] (fun av L=>av = .arr 2∧L=[.dead,.row 47 6 [x] false,.row 47 6 (l++[x]) false]):=by
 intro c vs hc hL0 hs hv
 have hv0:=hv
 simp only [VRt,VR,VD] at hv
 obtain ⟨u0,r0,hvs,⟨ab0,hab0,har0⟩,u1,r1,rfl,hu1,u2,r2,rfl,⟨ab2,hab2,har2⟩,rfl⟩:=hv
 have hq:appendK tt 26 [AB.row 47 6 l false,AB.row 47 6 [x] false] (.arr 0) (.arr 1) (fun av L=>av = .arr 2∧L=[.dead,.row 47 6 [x] false,.row 47 6 (l++[x]) false]):=by
  conv=>whnf
  refine ⟨by simp;omega,?_⟩
  conv=>whnf
  exact ⟨rfl,rfl⟩
 have hv1:VR (rcOf c.M0 c.E0 [AB.row 47 6 l false,AB.row 47 6 [x] false] c.w0) (.arr 0) u0:=⟨ab0,hab0,har0⟩
 have hv2:VR (rcOf c.M0 c.E0 [AB.row 47 6 l false,AB.row 47 6 [x] false] c.w0) (.arr 1) u2:=⟨ab2,hab2,har2⟩
 have hr:=fun ty=>appendK_run ttOk zOk hc hs hq ty hv1 hv2
 simp only [List.getElem?_cons_zero,List.getElem?_cons_succ,Option.some.injEq] at hab0 hab2
 subst hab0;subst hab2;subst hu1
 have hvs':vs = #[u0,.int .i64 l.length,u2]:=by rw [← Array.toArray_toList (xs:=vs),hvs]
 rw [hvs']
 have hb0:=hs.blk 0 _ rfl
 have hb1:=hs.blk 1 _ rfl
 obtain ⟨_,hxl,hb1⟩:=hb1
 obtain ⟨_,hll,hb0⟩:=hb0
 cases hE1:c.E0 1 with
 | none=>rw [hE1] at hb1;cases hb1
 | some vb =>
 simp only [arRel,hE1] at har2
 obtain ⟨vc,curv,rfl,hhv,hszv⟩:=har2
 obtain ⟨r,w',E',av,L',hrun,⟨rfl,rfl⟩,hsim,hle,hvr⟩:=hr 26
 simp only [List.length_cons,List.length_nil,Nat.zero_add] at hrun ⊢
 have t0:=Tryz.underlying0;have a0:=Tryz.isAgg0;have z0:=Tryz.sizeOf0;have v0:=Tryz.zeroValue0
 have t3:=Tryz.underlying3;have a3:=Tryz.isAgg3;have z3:=Tryz.sizeOf3;have v3:=Tryz.zeroValue3
 have t4:=Tryz.underlying4;have a4:=Tryz.isAgg4;have z4:=Tryz.sizeOf4;have v4:=Tryz.zeroValue4
 have t22:=Tryz.underlying26;have a22:=Tryz.isAgg26;have z22:=Tryz.sizeOf26;have v22:=Tryz.zeroValue26
 have t68:=Tryz.underlying47;have a68:=Tryz.isAgg47;have z68:=Tryz.sizeOf47;have v68:=Tryz.zeroValue47
 have u0:=run_underlying t0;have u3:=run_underlying t3;have u4:=run_underlying t4;have u22:=run_underlying t22;have u68:=run_underlying t68
 have mixed:=mixedOk
 cases hE:c.E0 0 with
 | none =>
   rw [hE] at hb0
   have hb0:l=[]:=hb0
   subst hb0
   simp only [arRel,hE] at har0
   subst har0
   refine Calls.mono (R:=fun e w2=>e = .returned r∧w2=w') ?_ (by rintro _ _ ⟨rfl,rfl⟩;exact ⟨_,.arr 2,_,_,rfl,⟨rfl,rfl⟩,hsim,hvr⟩)
   go_enter Tryz.func195,Tryz.ntmps195
   go_wp2_with (at_builtin;refine Lib.wpList_append_run _ rfl _ _ _ _ rfl _ _ rfl rfl _ _ hrun ?_)
   go_ret
   exact ⟨rfl,rfl⟩
 | some b =>
   rw [hE] at hb0
   simp only [arRel,hE] at har0
   obtain ⟨cap,cur,rfl,hh,hsz⟩:=har0
   obtain ⟨cap',cur',hh',hsz',hcap,hmax,hvd⟩:=hb0
   rw [hh] at hh';cases hh'
   obtain rfl:cap=cap':=by omega
   have hc63:cap≤9223372036854775807:=by unfold maxLen at hmax;omega
   refine Calls.mono (R:=fun e w2=>e = .returned r∧w2=w') ?_ (by rintro _ _ ⟨rfl,rfl⟩;exact ⟨_,.arr 2,_,_,rfl,⟨rfl,rfl⟩,hsim,hvr⟩)
   clear hsz hsz' hvr hsim hle
   obtain ⟨n,hn⟩:∃ n,l.length=n:=⟨_,rfl⟩
   rw [hn] at hrun hcap ⊢
   go_enter Tryz.func195,Tryz.ntmps195
   go_wp2_with (at_builtin;refine Lib.wpList_append_run _ rfl _ _ _ _ rfl _ _ rfl rfl _ _ hrun ?_)
   all_goals (go_ret;exact ⟨rfl,rfl⟩)
end Go.Proofs.YtolkmjfkkkiboaaGreat
