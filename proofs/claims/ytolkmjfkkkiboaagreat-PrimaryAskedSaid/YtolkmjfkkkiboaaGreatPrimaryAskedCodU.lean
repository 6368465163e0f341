/- PrimaryAsked: for every argument the law returns true, and its argument reads behind the call as it read before. No condition of ours. -/
import Derived.Test.YtolkmjfkkkiboaaGreatPrimaryAskedCodS
import Derived.Test.YtolkmjfkkkiboaaGreatRows
set_option linter.unusedVariables false
set_option linter.unusedSimpArgs false
namespace Go.Proofs.YtolkmjfkkkiboaaGreat
open Go.Ab Go.RowKit Go.MapKept
attribute [local irreducible] ACalls AW ADraw Into fltB fnear
set_option maxRecDepth 100000
def onStT (s:Script) (kind:Int) (i:Nat):AF×List AB:=([(1,.d (.int .i64 kind)),(2,.ptr 0 0),(5,.d (.int .i64 i))],[.cells (s.cs.map AV.d)])
def Act.take4 (a:Act):Act:={ a with doo:=4 }
set_option maxHeartbeats 4000000 in
open Classical in
theorem takes20_ok (s:Script) (hs:s.okk) (kind:Int) (hT:s.p.ok→s.p.tiny→s.p.gh→s.p.dag.certs.length+s.p.late.length<60000→∀ (m:Msg) (l:List Int),m.small→m.kind=kind→few l→∃ C q o,TakeF s.p m l C q o):ACalls Tryz.prog 13 [s.av,.d (.int .i64 kind)] [] (fun av L=>av = .d (.bool true)∧L=[]):=by
 have hh:=heavyS_full s hs.oks
 have hok:=hs.oks.ok
 have hal:=actsD_length s.acts
 have hpok:s.p.ok:=⟨hok.mine,by rw [hs.gh.2];exact Nat.zero_le _,hok.acks,hok.votes,hok.dag,hok.late⟩
 (refine acalls_go ttOk zOk foOk Tryz.func13 rfl Tryz.ntmps13 rfl false rfl ?_);(conv=>whnf)
 refine rdz ?_;repeat' ((with_reducible apply tw)<;>intro _)
 refine hh.mono ?_
 rintro _ _ ⟨⟨b,rfl,hb⟩,rfl⟩
 cases b with
 | true =>
   conv=>whnf
   refine rdz ?_;repeat' ((with_reducible apply tw)<;>intro _)
   exact ⟨rfl,rfl⟩
 | false =>
   have hlt:=hb rfl
   have e1:=hlt.certs
   have e2:=hlt.late
   have e3:=hlt.votes
   have e4:=hlt.acks
   have e5:=hlt.mine
   have e6:=hlt.acts
   have hpt:s.p.tiny:=⟨⟨by unfold tiny;omega,by unfold tiny;omega,by rw [hs.gh.2];exact Nat.zero_le _⟩,by omega,by omega,⟨by unfold tiny;omega,fun c hc=>(e1.2 c hc).all.2⟩,⟨by unfold tiny;omega,fun c hc=>(e2.2 c hc).all.2⟩⟩
   have hcf:∀ c:Cert,c.light→c.fitS:=fun c h=>⟨by have:=h.1;omega,by have:=h.2.1;omega,by have:=h.2.2;omega⟩
   have hpm:s.p.mine.fitS:=⟨by omega,by omega,by rw [hs.gh.2];exact Nat.zero_le _⟩
   have hpf:s.p.fitS:=⟨by omega,by omega,by omega,by omega,⟨by omega,fun c hc=>hcf c (e1.2 c hc)⟩,⟨by omega,fun c hc=>hcf c (e2.2 c hc)⟩⟩
   conv=>whnf
   refine rdz ?_;repeat' ((with_reducible apply tw)<;>intro _)
   refine loop_go ttOk zOk foOk (σ:=Nat) (onStT s kind) (fun i=>i≤s.acts.length) (fun i=>s.acts.length - i) [1,2,5] ?_ ?_
   ·conv=>whnf
    exact ⟨0,rfl,rfl,Nat.zero_le _⟩
   ·intro i hi
    conv=>whnf
    refine rdz ?_;repeat' ((with_reducible apply tw)<;>intro _)
    ·rename_i k1 k2
     replace k1:(i:Int)<((actsD s.acts).length:Int):=k1
     refine Exists.elim (⟨_,List.getElem?_eq_getElem (by omega)⟩:∃ a,s.acts[i]? = some a) fun a ha => ?_
     have ham:=List.mem_of_getElem? ha
     have hal4:=(e6.2 a ham).l
     refine ⟨by omega,a.cs,by rw [Int.toNat_natCast,actsD,List.getElem?_map,ha];rfl,?_⟩
     conv=>whnf
     refine rdz ?_;repeat' ((with_reducible apply tw)<;>intro _)
     ·exact ⟨i+1,rfl,rfl,(show i+1≤s.acts.length by omega),(show s.acts.length - (i+1)<s.acts.length - i by omega)⟩
     ·rename_i k3
      replace k3:a.m.kind=kind:=k3
      have hst:=step4_ok s.p hpok hpt hpf (by omega) a.take4 rfl (hs.ints a ham).1 (show a.l.length≤1000 by omega) (light_small (e6.2 a ham).m (hs.hg a ham)) (fun m hm hmk=>hT hpok hpt hs.gh (by omega) m a.l hm (hmk.trans k3) (by unfold few;omega))
      refine hst.mono ?_
      rintro _ _ ⟨⟨q,rfl⟩,rfl⟩
      conv=>whnf
      refine rdz ?_;repeat' ((with_reducible apply tw)<;>intro _)
      exact ⟨i+1,rfl,rfl,(show i+1≤s.acts.length by omega),(show s.acts.length - (i+1)<s.acts.length - i by omega)⟩
    all_goals
     refine wakes_ok.mono ?_
     rintro _ _ ⟨rfl,rfl⟩
     conv=>whnf
     refine rdz ?_;repeat' ((with_reducible apply tw)<;>intro _)
     exact ⟨rfl,rfl⟩
theorem lackO_ok (d:Dag) (hd:d.fit) (c:Cert) (hc:tiny c.pars) (hr:isF c.round) (hr1:1≤c.round) (hlow:0≤d.low∧d.low≤1099511627776):ACalls Tryz.prog 194 [d.av,c.havo] [] (fun av L=>av = .d (.sl 1 (nums (lackI d c)))∧L=[]):=by
 have hpl:=nums_length c.pars
 have hfl:few (ofR d.certs (c.round - 1)):=by
  have:=hd.few
  unfold few at this ⊢
  exact Nat.le_trans (List.length_filter_le ..) this
 unfold tiny at hc
 unfold isF at hr
 (refine acalls_go ttOk zOk foOk Tryz.func194 rfl Tryz.ntmps194 rfl false rfl ?_);(conv=>whnf)
 refine rdw ?_;repeat' ((with_reducible apply tw)<;>intro _)
 ·rename_i h
  rw [lackI,if_pos h]
  exact ⟨rfl,rfl⟩
 ·rename_i h
  rw [lackI,if_neg h]
  refine (dagOf_ok d hd (c.round - 1) (by unfold isF;omega)).mono ?_
  rintro _ _ ⟨rfl,rfl⟩
  obtain ⟨A,hA⟩:∃ A,ofR d.certs (c.round - 1)=A:=⟨_,rfl⟩
  rw [hA] at hfl ⊢
  conv=>whnf
  refine loop_go ttOk zOk foOk (σ:=Nat) (fun j=>([(5,.d (.sl 6 (certsD A))),(20,.d (.slo 1 (nums c.pars))),(21,.d (.int .i64 c.pars.length)),(22,.d (.int .i64 j)),(4,.arr 0)],[.row 3 1 (nums ((c.pars.take j).filter fun x => !A.any fun y=>y.digest == x)) false])) (fun j=>j≤c.pars.length) (fun j=>c.pars.length - j) [5,20,21,22,4] ?_ ?_
  ·conv=>whnf
   exact ⟨0,by rw [hpl];rfl,rfl,Nat.zero_le _⟩
  ·intro j hj
   have hfn:(nums ((c.pars.take j).filter fun x => !A.any fun y=>y.digest == x)).length≤c.pars.length:=by rw [nums_length];exact Nat.le_trans (List.length_filter_le ..) (List.length_take_le' ..)
   conv=>whnf
   refine rdw ?_;repeat' ((with_reducible apply tw)<;>intro _)
   ·rename_i hjl
    refine Exists.elim (⟨_,List.getElem?_eq_getElem (by omega)⟩:∃ x,c.pars[j]? = some x) fun x hx => ?_
    refine ⟨by omega,[.int .i64 x],nums_at hx,?_⟩
    conv=>whnf
    refine (has_ok A hfl x).mono ?_
    rintro _ _ ⟨rfl,rfl⟩
    have hsn:∀ b,(A.any fun y=>y.digest == x)=b→(c.pars.take (j+1)).filter (fun x => !A.any fun y=>y.digest == x)=(c.pars.take j).filter (fun x => !A.any fun y=>y.digest == x)++(if b then [] else [x]):=by
     intro b hb
     rw [List.take_add_one,hx,List.filter_append]
     cases b<;>simp [List.filter_cons,hb]
    obtain ⟨b,hb⟩:∃ b,(A.any fun y=>y.digest == x)=b:=⟨_,rfl⟩
    rw [hb]
    replace hsn:=hsn b hb
    cases b with
    | true =>
      conv=>whnf
      refine rdw ?_;repeat' ((with_reducible apply tw)<;>intro _)
      exact ⟨j+1,rfl,by rw [hsn];simp,by omega,by omega⟩
    | false =>
      conv=>whnf
      refine rdw ?_;repeat' ((with_reducible apply tw)<;>intro _)
      refine ⟨by simp;omega,?_⟩
      conv=>whnf
      refine rdw ?_;repeat' ((with_reducible apply tw)<;>intro _)
      refine ⟨j+1,rfl,?_,by omega,by omega⟩
      rw [hsn,← nums_apps]
      rfl
   ·rename_i hjl
    obtain rfl:j=c.pars.length:=by omega
    rw [List.take_length]
    exact ⟨rfl,rfl⟩
theorem flat_ib (n:Int) (b:Bool):flatA (.tup [.d (.int .i64 n),.d (.bool b)]):=by
 intro R R' v h
 simpa [VR,VRt,VD] using h
theorem bsearchO_pos (l:List Int) (hl:few l) (hs:risingI l) (x:Int) {L:List AB}:ACalls Tryz.prog 204 [.d (.slo 1 (nums l)),.d (.int .i64 x)] L (fun av L'=>av = .tup [.d (.int .i64 (ackI l x)),.d (.bool (decide (x∈l)))]∧L'=L) :=
 acalls_lendP (X:=fun av=>av = .tup [.d (.int .i64 (ackI l x)),.d (.bool (decide (x∈l)))]) (fun av e=>by rw [e];exact flat_ib _ _) ⟨_,_,rfl,.inl (l1_up (up_nums l)),_,_,rfl,.inl (l1_int _),rfl⟩ (bsearchI_pos l hl hs x)
theorem placesO_ok (c:Cert):ACalls Tryz.prog 201 [c.havo] [] (fun av L=>av = .d (plb c.round c.author)∧L=[]):=by
 (refine acalls_go ttOk zOk foOk Tryz.func201 rfl Tryz.ntmps201 rfl false rfl ?_);(conv=>whnf)
 refine rdw ?_;repeat' ((with_reducible apply tw)<;>intro _)
 refine (placeOf_ok c.round c.author).mono ?_
 rintro _ _ ⟨rfl,rfl⟩
 conv=>whnf
 exact ⟨rfl,rfl⟩
def abBo (p:Prim) (out:List Msg) (m:Msg) (bs:List Int) (j:Bool):List AB:=if j then [.cells (p.cs.map AV.d++[.arr 4]),.dead,.cells (m.cso.map AV.d),.row 3 1 (nums bs) false,.row 49 18 (msgsD out) false] else [.cells (p.cs.map AV.d++[.arr 1]),.row 49 18 (msgsD out) false,.cells (m.cso.map AV.d),.row 3 1 (nums bs) false]
def abSo (p:Prim) (out:List Msg) (m:Msg) (held lk bs:List Int) (j:Bool) (k:Nat):AF×List AB:=([(0,.ptr 0 0),(2,.d (.slo 1 (nums held))),(4,.ptr 2 0),(6,.d (.sl 1 (nums lk))),(7,.arr 3),(57,.d (.slo 1 (nums m.head.bats))),(58,.d (.int .i64 m.head.bats.length)),(59,.d (.int .i64 k))],abBo p out m bs j)
set_option maxHeartbeats 8000000 in
theorem askedO_ok (p:Prim) (hv:Valid p.dag) (hvo:okVotes p.votes) (hl:p.late.length≤256) (hs:risingC p.late) (out:List Msg) (ho:out.length≤100000) (m:Msg) (n:Int) (hh:okHead n m.head) (hf:fewL m.head) (held:List Int) (hhl:few held) (hhr:risingI held) :
  ACalls Tryz.prog 166 [.ptr 0 0,m.avo,.d (.slo 1 (nums held))] (p.st out) (fun av L=>av = .tup []∧∃ j,L=(askedP p m held).sj j (out++askedO p m held)):=by
 have hnn:=of_decide_eq_true hh.isn
 have hrd:=hh.round
 have hau:=hh.author
 have hbl:=hh.bats.1
 have hpl:=hh.pars.1
 have hlk:(lackI p.dag m.head).length≤1000000:=by
  unfold lackI
  split
  ·exact Nat.zero_le _
  ·exact Nat.le_trans (List.length_filter_le ..) (by omega)
 have hlack:=lackO_ok p.dag hv.fit m.head (by unfold tiny;omega) ⟨by omega,by omega⟩ hrd.1 hv.low
 (refine acalls_go ttOk zOk foOk Tryz.func166 rfl Tryz.ntmps166 rfl false rfl ?_);(conv=>whnf)
 refine scope_go ttOk zOk foOk (σ:=(Prim×List Msg)×Bool) (fun s=>([(0,.ptr 0 0),(4,.ptr 2 0)],teBo s.1.1 s.1.2 m s.2)) (fun k s=>k=0∧s.1.2.length≤3000000∧s.1.1=askedP p m held∧s.1.2++[(tellV m).told s.1.1 m.src]=out++askedO p m held) (fun _ _=>0) ?_ ?_
 ·rintro k rest hk ⟨⟨q,o⟩,j⟩ ⟨rfl,h1,h2,h3⟩
  have e:=Option.some.inj (show some _=some rest from hk)
  subst e
  clear hk
  replace h1:o.length≤3000000:=h1
  replace h2:q=askedP p m held:=h2
  replace h3:o++[(tellV m).told q m.src]=out++askedO p m held:=h3
  have hsay:=say_ok q o (by omega) m.src (tellV m) cz0_tiny cz0_tiny
  rw [h3] at hsay
  rw [← h2]
  clear h2
  cases j
  all_goals
   conv=>whnf
   refine rdw ?_;repeat' ((with_reducible apply tw)<;>intro _)
   refine (acalls_nw hsay (.cons (.refl _) (.cons (.refl _) (.cons (.agg ?_) .nil)))).mono ?_
   ·repeat (first|exact .nil|refine .cons (.refl _) ?_|refine .cons (.nils _ (by decide)) ?_)
   ·rintro _ _ ⟨rfl,rfl⟩
    conv=>whnf
    refine rdw ?_;repeat' ((with_reducible apply tw)<;>intro _)
    exact ⟨rfl,true,rfl⟩
 ·intro pass
  conv=>whnf
  refine rdw ?_;repeat' ((with_reducible apply tw)<;>intro _)
  ((with_reducible refine draw_pl ttOk zOk foOk mixedOk pl166x4 ?_ ?_);(focus kernel_rfl);(conv=>whnf))
  refine rdw ?_;repeat' ((with_reducible apply tw)<;>intro _)
  ·rename_i h0
   refine ⟨rfl,false,?_⟩
   rw [askedP,if_pos h0,askedO,if_pos h0,List.append_nil]
   rfl
  ·rename_i h0
   ((with_reducible refine draw_pl ttOk zOk foOk mixedOk pl166x5 ?_ ?_);(focus kernel_rfl);(conv=>whnf))
   refine rdw ?_;repeat' ((with_reducible apply tw)<;>intro _)
   refine (placesO_ok m.head).mono ?_
   rintro _ _ ⟨rfl,rfl⟩
   conv=>whnf
   refine rdw ?_;repeat' ((with_reducible apply tw)<;>intro _)
   refine (voteAt_ok p.votes hvo m.head.round m.head.author ⟨by omega,by omega⟩ ⟨by omega,by omega⟩).mono ?_
   rintro _ _ ⟨rfl,rfl⟩
   conv=>whnf
   refine rdw ?_;repeat' ((with_reducible apply tw)<;>intro _)
   ·rename_i h1 h2
    refine into_of [0,4] ?_
    conv=>whnf
    refine ⟨((p,out),false),rfl,rfl,⟨rfl,by show out.length≤_;omega,?_,?_⟩⟩
    ·rw [askedP,if_neg h0,if_pos h1]
    ·rw [askedO,if_neg h0,if_pos h1,if_pos h2]
   ·rename_i h1 h2
    refine ⟨rfl,false,?_⟩
    rw [askedP,if_neg h0,if_pos h1,askedO,if_neg h0,if_pos h1,if_neg h2,List.append_nil]
    rfl
   ·rename_i h1
    have hfresh:=fresh_ok p out (by unfold few;omega) hs (lackI p.dag m.head) hlk
    have hwant:=want_ok p out (by omega) m.src 8 (freshI p.late (lackI p.dag m.head)) (by unfold freshI;exact Nat.le_trans (List.length_filter_le ..) hlk)
    obtain ⟨out1,hout1⟩:∃ o,out++wantO p m.src 8 (freshI p.late (lackI p.dag m.head))=o:=⟨_,rfl⟩
    rw [hout1] at hwant
    have hol1:out1.length≤1100000:=by rw [← hout1,List.length_append,wantO,List.length_map,chunksI_length];have:(freshI p.late (lackI p.dag m.head)).length≤1000000:=by { unfold freshI;exact Nat.le_trans (List.length_filter_le ..) hlk };unfold chn;omega
    ((with_reducible refine draw_pl ttOk zOk foOk mixedOk pl166x8 ?_ ?_);(focus kernel_rfl);(conv=>whnf))
    refine rdw ?_;repeat' ((with_reducible apply tw)<;>intro _)
    refine hlack.mono ?_
    rintro _ _ ⟨rfl,rfl⟩
    conv=>whnf
    refine rdw ?_;repeat' ((with_reducible apply tw)<;>intro _)
    ((with_reducible refine draw_pl ttOk zOk foOk mixedOk pl166x9 ?_ ?_);(focus kernel_rfl);(conv=>whnf))
    refine rdw ?_;repeat' ((with_reducible apply tw)<;>intro _)
    refine hfresh.mono ?_
    rintro _ _ ⟨rfl,rfl⟩
    conv=>whnf
    refine rdw ?_;repeat' ((with_reducible apply tw)<;>intro _)
    refine hwant.mono ?_
    rintro _ _ ⟨rfl,j,rfl⟩
    have hbl2:=nums_length m.head.bats
    cases j
    all_goals
     conv=>whnf
     refine rdw ?_;repeat' ((with_reducible apply tw)<;>intro _)
     first
      | (refine loop_go2 ttOk zOk foOk (σ:=List Int) (ρ:=Nat) (fun bs k=>abSo p out1 m held (lackI p.dag m.head) bs false k) (fun bs k=>k≤m.head.bats.length∧bs=lackA held (m.head.bats.take k)) (fun _ k=>m.head.bats.length - k) [0,2,4,6,7,57,58,59] ?_ ?_
         focus (conv=>whnf
                exact ⟨[],0,by rw [hbl2];rfl,rfl,Nat.zero_le _,by simp [lackA]⟩))
      | (refine loop_go2 ttOk zOk foOk (σ:=List Int) (ρ:=Nat) (fun bs k=>abSo p out1 m held (lackI p.dag m.head) bs true k) (fun bs k=>k≤m.head.bats.length∧bs=lackA held (m.head.bats.take k)) (fun _ k=>m.head.bats.length - k) [0,2,4,6,7,57,58,59] ?_ ?_
         focus (conv=>whnf
                exact ⟨[],0,by rw [hbl2];rfl,rfl,Nat.zero_le _,by simp [lackA]⟩))
     rintro bs k ⟨hk,hbs⟩
     have hfn:(nums bs).length≤m.head.bats.length:=by rw [nums_length,hbs];exact Nat.le_trans (List.length_filter_le ..) (List.length_take_le' ..)
     conv=>whnf
     refine rdw ?_;repeat' ((with_reducible apply tw)<;>intro _)
     ·rename_i hkl
      replace hkl:(k:Int)<m.head.bats.length:=hkl
      refine Exists.elim (⟨_,List.getElem?_eq_getElem (by omega)⟩:∃ x,m.head.bats[k]? = some x) fun x hx => ?_
      have hsn:=lackA_snoc held m.head.bats hx
      refine ⟨by omega,[.int .i64 x],nums_at hx,?_⟩
      conv=>whnf
      refine rdw ?_;repeat' ((with_reducible apply tw)<;>intro _)
      refine (bsearchO_pos held hhl hhr x).mono ?_
      rintro _ _ ⟨rfl,rfl⟩
      by_cases hm:x∈held
      ·rw [decide_eq_true hm]
       rw [if_pos hm,List.append_nil,← hbs] at hsn
       conv=>whnf
       refine rdw ?_;repeat' ((with_reducible apply tw)<;>intro _)
       exact ⟨bs,k+1,rfl,rfl,⟨by omega,hsn.symm⟩,by omega⟩
      ·rw [decide_eq_false hm]
       rw [if_neg hm,← hbs] at hsn
       conv=>whnf
       refine rdw ?_;repeat' ((with_reducible apply tw)<;>intro _)
       refine ⟨by show ((nums bs).length+1) * 8≤_;omega,?_⟩
       conv=>whnf
       refine rdw ?_;repeat' ((with_reducible apply tw)<;>intro _)
       refine ⟨bs++[x],k+1,rfl,?_,⟨by omega,hsn.symm⟩,by omega⟩
       unfold abSo abBo
       rw [← nums_apps]
       rfl
     ·rename_i hkl
      replace hkl:¬(k:Int)<m.head.bats.length:=hkl
      rw [List.take_of_length_le (by omega)] at hbs
      have hlb:lackA held m.head.bats=bs:=hbs.symm
      rw [nums_length] at hfn
      have hwant2:=want_ok p out1 (by omega) m.src 7 bs (by omega)
      obtain ⟨out2,hout2⟩:∃ o,out1++wantO p m.src 7 bs=o:=⟨_,rfl⟩
      rw [hout2] at hwant2
      have hol:out2.length≤2200000:=by rw [← hout2,List.length_append,wantO,List.length_map,chunksI_length];unfold chn;omega
      have hbn:=nums_length bs
      have hln:=nums_length (lackI p.dag m.head)
      have hO:out++askedO p m held=out2++(if askQ p m held=true∧giveE p.votes (voteOf m)=0 then [(tellV m).told p m.src] else []):=by
       rw [askedO,if_neg h0,if_neg h1,hlb,← hout2,← hout1]
       simp only [List.append_assoc]
      conv=>whnf
      (refine Or.inl ?_;(conv=>whnf))
      refine hwant2.mono ?_
      rintro _ _ ⟨rfl,j,rfl⟩
      cases j
      all_goals
       conv=>whnf
       refine rdw ?_;repeat' ((with_reducible apply tw)<;>intro _)
       ·rename_i hq
        replace hq:((nums (lackI p.dag m.head)).length:Int)+((nums bs).length:Int)>0:=hq
        have hq2:¬askQ p m held=true:=by
         unfold askQ
         rw [hlb]
         simp only [Bool.and_eq_true,decide_eq_true_iff]
         rintro ⟨e1,e2⟩
         rw [e1,e2] at hq
         revert hq
         decide
        have hP:askedP p m held=p:=by rw [askedP,if_neg h0,if_neg h1,if_neg hq2]
        rw [hO,if_neg (fun h=>hq2 h.1),List.append_nil,hP]
        first
         | exact ⟨rfl,false,rfl⟩
         | exact ⟨rfl,true,rfl⟩
       ·rename_i hq
        replace hq:¬((nums (lackI p.dag m.head)).length:Int)+((nums bs).length:Int)>0:=hq
        have hq2:askQ p m held=true:=by
         unfold askQ
         rw [hlb]
         simp only [Bool.and_eq_true,decide_eq_true_iff]
         exact ⟨List.eq_nil_of_length_eq_zero (by omega),List.eq_nil_of_length_eq_zero (by omega)⟩
        have hP:askedP p m held={ p with votes:=putV p.votes (voteOf m) }:=by rw [askedP,if_neg h0,if_neg h1,if_pos hq2]
        have hput:=votePut_ok p.votes hvo (voteOf m) ⟨⟨by show _≤m.head.round;omega,by show m.head.round<_;omega⟩,⟨by show _≤m.head.author;omega,by show m.head.author<_;omega⟩⟩
        ((with_reducible refine draw_pl ttOk zOk foOk mixedOk pl166x19 ?_ ?_);(focus kernel_rfl);(conv=>whnf))
        refine rdw ?_;repeat' ((with_reducible apply tw)<;>intro _)
        refine hput.mono ?_
        rintro _ _ ⟨rfl,rfl⟩
        conv=>whnf
        refine rdw ?_;repeat' ((with_reducible apply tw)<;>intro _)
        ·rename_i hg
         replace hg:giveE p.votes (voteOf m)≠0:=hg
         have hP2:askedP p m held=p:=by rw [hP,putV,if_neg hg]
         rw [hO,if_neg (fun h=>hg h.2),List.append_nil,hP2]
         first
          | exact ⟨rfl,false,rfl⟩
          | exact ⟨rfl,true,rfl⟩
        ·rename_i hg
         replace hg:giveE p.votes (voteOf m)=0:=hg
         rw [if_pos ⟨hq2,hg⟩] at hO
         first
          | (refine aw_at (σ:=Unit) (fun _=>([(0,.ptr 0 0),(4,.ptr 2 0)],teBo { p with votes:=putV p.votes (voteOf m) } out2 m false)) (fun _=>True) [0,4] ?_ ?_
             ·conv=>whnf
              exact ⟨(),rfl,rfl,trivial⟩
             ·intro _ _
              exact pass 0 _ rfl (({ p with votes:=putV p.votes (voteOf m) },out2),false) ⟨rfl,by show out2.length≤_;omega,hP.symm,hO.symm⟩)
          | (refine aw_at (σ:=Unit) (fun _=>([(0,.ptr 0 0),(4,.ptr 2 0)],teBo { p with votes:=putV p.votes (voteOf m) } out2 m true)) (fun _=>True) [0,4] ?_ ?_
             ·conv=>whnf
              exact ⟨(),rfl,rfl,trivial⟩
             ·intro _ _
              exact pass 0 _ rfl (({ p with votes:=putV p.votes (voteOf m) },out2),true) ⟨rfl,by show out2.length≤_;omega,hP.symm,hO.symm⟩)
theorem gotO4_ok (p:Prim) (h:May p) (hr:p.dag.certs.length+p.late.length<60000) (m:Msg) (hf:m.fine) (hm:okMsg p.nodes m) (k4:m.kind=4) (held:List Int) (hl:few held) (hs:risingI held) :
  ACalls Tryz.prog 117 [p.av,m.avo,.d (.slo 1 (nums held))] [] (fun av L=>av = .tup [(gotP p m held).av,.d (.sl 18 (msgsD (gotO p m held)))]∧L=[]):=by
 have hrun:=askedO_ok p h.dag h.votes h.late.len h.late.ris [] (by simp) m p.nodes (hm.ok.head k4).1 hf.head held hl hs
 rw [gotP,if_pos k4,gotO,if_pos k4]
 (refine acalls_go ttOk zOk foOk Tryz.func117 rfl Tryz.ntmps117 rfl false rfl ?_);(conv=>whnf)
 refine rdw ?_;repeat' ((with_reducible apply tw)<;>intro _)
 all_goals first|exact absurd k4 (by assumption)|skip
 refine hrun.mono ?_
 rintro _ _ ⟨rfl,j,rfl⟩
 rw [List.nil_append]
 cases j
 all_goals
  conv=>whnf
  refine rdw ?_;repeat' ((with_reducible apply tw)<;>intro _)
  ((with_reducible refine draw_pl ttOk zOk foOk mixedOk pl117x10 ?_ ?_);(focus kernel_rfl);(conv=>whnf))
  refine rdw ?_;repeat' ((with_reducible apply tw)<;>intro _)
  exact ⟨rfl,rfl⟩
set_option maxHeartbeats 4000000 in
open Classical in
theorem takeO4_ok (p:Prim) (hok:p.ok) (hr:p.dag.certs.length+p.late.length<60000) (m:Msg) (hf:m.fine) (hk:m.kind=4) (held:List Int) (hl:few held) :
  ACalls Tryz.prog 58 [p.avo,m.avo,.d (.slo 1 (nums held))] [] (fun av L=>((takeC p m held∧kindC m∧av=doneAV (gotP p m held) (gotO p m held))∨(takeC p m held∧¬kindC m∧av=errAV 10)∨(¬takeC p m held∧av=errAV 1))∧L=[]):=by
 have h1:=primMayO_ok p hok
 have h2:ACalls Tryz.prog 114 [m.avo,.d (.int .i64 p.nodes)] [] (fun av L=>av = .d (.bool (decide (okMsg p.nodes m)))∧L=[]):=acalls_lend (flat_bool _) ⟨_,_,rfl,lend_mo m,_,_,rfl,.inl (l1_int _),rfl⟩ (msgMay_full m hf p.nodes)
 have h3:ACalls Tryz.prog 115 [.d (.slo 1 (nums held))] [] (fun av L=>av = .d (.bool (decide (riseB held 1 65536)))∧L=[]):=acalls_lend (flat_bool _) ⟨_,_,rfl,.inl (l1_up (up_nums held)),rfl⟩ (digests_ok held hl)
 have h4:=takes_ok m.kind
 (refine acalls_go ttOk zOk foOk Tryz.func58 rfl Tryz.ntmps58 rfl false rfl ?_);(conv=>whnf)
 refine rdw ?_;repeat' ((with_reducible apply tw)<;>intro _)
 refine h1.mono ?_
 rintro _ _ ⟨rfl,rfl⟩
 by_cases k1:May p
 ·rw [decide_eq_true k1]
  conv=>whnf
  refine rdw ?_;repeat' ((with_reducible apply tw)<;>intro _)
  refine h2.mono ?_
  rintro _ _ ⟨rfl,rfl⟩
  by_cases k2:okMsg p.nodes m
  ·rw [decide_eq_true k2]
   conv=>whnf
   refine rdw ?_;repeat' ((with_reducible apply tw)<;>intro _)
   ·rename_i k3
    exact ⟨.inr (.inr ⟨fun h=>k3 h.dst,rfl⟩),rfl⟩
   ·rename_i k3
    refine h3.mono ?_
    rintro _ _ ⟨rfl,rfl⟩
    by_cases k4:riseB held 1 65536
    ·rw [decide_eq_true k4]
     have hC:takeC p m held:=⟨k1,k2,k3,k4⟩
     conv=>whnf
     refine rdw ?_;repeat' ((with_reducible apply tw)<;>intro _)
     refine h4.mono ?_
     rintro _ _ ⟨rfl,rfl⟩
     by_cases k5:m.kind∈[(4:Int),5,6,8]
     ·rw [decide_eq_true k5]
      have hown:=primOwnO_ok p (k1.tiny hok.sigs)
      have hgot:=gotO4_ok p k1 hr m hf k2 hk held hl k4.1
      conv=>whnf
      refine rdw ?_;repeat' ((with_reducible apply tw)<;>intro _)
      ((with_reducible refine draw_pl ttOk zOk foOk mixedOk pl58x5 ?_ ?_);(focus kernel_rfl);(conv=>whnf))
      refine rdw ?_;repeat' ((with_reducible apply tw)<;>intro _)
      (refine (hown).mono ?_;rintro _ _ ⟨rfl,rfl⟩;(conv=>whnf))
      refine rdw ?_;repeat' ((with_reducible apply tw)<;>intro _)
      (refine (hgot).mono ?_;rintro _ _ ⟨rfl,rfl⟩;(conv=>whnf))
      refine rdw ?_;repeat' ((with_reducible apply tw)<;>intro _)
      exact ⟨.inl ⟨hC,k5,rfl⟩,rfl⟩
     ·rw [decide_eq_false k5]
      conv=>whnf
      refine rdw ?_;repeat' ((with_reducible apply tw)<;>intro _)
      exact ⟨.inr (.inl ⟨hC,k5,rfl⟩),rfl⟩
    ·rw [decide_eq_false k4]
     conv=>whnf
     refine rdw ?_;repeat' ((with_reducible apply tw)<;>intro _)
     exact ⟨.inr (.inr ⟨fun h=>k4 h.held,rfl⟩),rfl⟩
  ·rw [decide_eq_false k2]
   conv=>whnf
   refine rdw ?_;repeat' ((with_reducible apply tw)<;>intro _)
   exact ⟨.inr (.inr ⟨fun h=>k2 h.msg,rfl⟩),rfl⟩
 ·rw [decide_eq_false k1]
  conv=>whnf
  refine rdw ?_;repeat' ((with_reducible apply tw)<;>intro _)
  exact ⟨.inr (.inr ⟨fun h=>k1 h.may,rfl⟩),rfl⟩
theorem want_nice (p:Prim) (to kind:Int) {l:List Int} (hl:l.length≤1000000):∀ x∈wantO p to kind l,x.nice:=by
 intro x hx
 obtain ⟨d,hd,rfl⟩:=List.mem_map.1 hx
 have h16:=chunks_tiny hl d hd
 exact ⟨⟨Nat.zero_le _,fit_few z_fit,fit_few z_fit,by show d.length≤_;omega⟩,rfl,⟨Nat.zero_le _,z_fit,z_fit,by show d.length≤_;omega⟩⟩
theorem tellV_nice (p:Prim) (m:Msg):((tellV m).told p m.src).nice:=⟨⟨Nat.zero_le _,fit_few z_fit,fit_few z_fit,Nat.zero_le _⟩,rfl,⟨Nat.zero_le _,z_fit,z_fit,Nat.zero_le _⟩⟩
theorem wantO_len (p:Prim) (to kind:Int) (l:List Int):(wantO p to kind l).length=chn l.length:=by rw [wantO,List.length_map,chunksI_length]
theorem lacks_len {p:Prim} {n:Int} {c:Cert} (hn:isN n=true) (h:okHead n c):(freshI p.late (lackI p.dag c)).length≤50000:=by
 have:=h.pars.1
 have hnn:=of_decide_eq_true hn
 have h1:(lackI p.dag c).length≤c.pars.length:=by
  unfold lackI
  split
  ·exact Nat.zero_le _
  ·exact List.length_filter_le ..
 have h2:(freshI p.late (lackI p.dag c)).length≤(lackI p.dag c).length:=by unfold freshI;exact List.length_filter_le ..
 omega
theorem lackA_len {n:Int} {c:Cert} (held:List Int) (h:okHead n c):(lackA held c.bats).length≤50000:=by
 have:=h.bats.1
 have h2:(lackA held c.bats).length≤c.bats.length:=by unfold lackA;exact List.length_filter_le ..
 omega
theorem askedO_nice {p:Prim} {m:Msg} {n:Int} (hn:isN n=true) (h:okHead n m.head) (held:List Int):∀ x∈askedO p m held,x.nice:=by
 have h1:=lacks_len (p:=p) hn h
 have h2:=lackA_len held h
 unfold askedO
 split
 ·intro x hx;cases hx
 ·split
  ·split
   ·intro x hx;rw [List.mem_singleton] at hx;subst hx;exact tellV_nice p m
   ·intro x hx;cases hx
  ·intro x hx
   rcases List.mem_append.1 hx with hx|hx
   ·rcases List.mem_append.1 hx with hx|hx
    ·exact want_nice p _ _ (by omega) x hx
    ·exact want_nice p _ _ (by omega) x hx
   ·split at hx
    ·rw [List.mem_singleton] at hx;subst hx;exact tellV_nice p m
    ·cases hx
theorem askedO_len {p:Prim} {m:Msg} {n:Int} (hn:isN n=true) (h:okHead n m.head) (held:List Int):(askedO p m held).length≤100000:=by
 have h1:=lacks_len (p:=p) hn h
 have h2:=lackA_len held h
 unfold askedO
 split
 ·exact Nat.zero_le _
 ·split
  ·split
   ·exact Nat.le_of_ble_eq_true rfl
   ·exact Nat.zero_le _
  ·rw [List.length_append,List.length_append,wantO_len,wantO_len]
   have h3:(if askQ p m held=true∧giveE p.votes (voteOf m)=0 then [(tellV m).told p m.src] else []).length≤1:=by
    split
    ·exact Nat.le_refl _
    ·exact Nat.zero_le _
   unfold chn
   omega
theorem takeF4 (p:Prim) (hok:p.ok) (ht:p.tiny) (hg:p.gh) (hr:p.dag.certs.length+p.late.length<60000) (m:Msg) (hm:m.small) (hk:m.kind=4) (held:List Int) (hl:few held):TakeF p m held (takeC p m held) (gotP p m held) (gotO p m held) where
 page:=fun k1=>take20a_ok p k1 hok ht hr m hm.fine hk held hl
 prog:=takeI_of (takeO4_ok p hok hr m hm.fine hk held hl) (takeX_of (by unfold kindC;rw [hk];simp)) (fun hC x hx=>by
  rw [gotO,if_pos hk] at hx
  exact askedO_nice hC.may.isn (hC.msg.ok.head hk).1 held x hx)
 may:=fun h=>h.may
 qok:=fun hC=>by
  have hgo:=goes_got hC.may hr hC.msg held
  exact ⟨may_ok hgo.may (hgo.gh hg),may_fit hgo.may⟩
 nice:=fun hC x hx=>by
  rw [gotO,if_pos hk] at hx
  exact askedO_nice hC.may.isn (hC.msg.ok.head hk).1 held x hx
 len:=fun hC=>by
  rw [gotO,if_pos hk]
  exact askedO_len hC.may.isn (hC.msg.ok.head hk).1 held
theorem primaryAsked_ok (s:Script) (hs:s.okk):ACalls Tryz.prog 7 [s.av] [] (fun av L=>av = .d (.bool true)∧L=[]):=by
 have h:=takes20_ok s hs 4 fun h1 h2 h3 h4 m l hm hk hl=>⟨_,_,_,takeF4 s.p h1 h2 h3 h4 m hm hk l hl⟩
 (refine acalls_go ttOk zOk foOk Tryz.func7 rfl Tryz.ntmps7 rfl false rfl ?_);(conv=>whnf)
 refine rdz ?_;repeat' ((with_reducible apply tw)<;>intro _)
 (refine (h).mono ?_;rintro _ _ ⟨rfl,rfl⟩;(conv=>whnf))
 refine rdz ?_;repeat' ((with_reducible apply tw)<;>intro _)
 exact ⟨rfl,rfl⟩
end Go.Proofs.YtolkmjfkkkiboaaGreat
/- PrimaryAsked: for every argument the law returns true, and its argument reads behind the call as it read before. No condition of ours. -/
namespace Go.Proofs.YtolkmjfkkkiboaaGreat
open Go.Ab Go.RowKit Go.ChangeShapes Go.WideShapes Go.ChangeAt
theorem own:ownKnob Tryz.prog.godebug=none:=by kernel_rfl
theorem laidOut:laidOutB Tryz.prog=true:=by kernel_rfl
set_option maxRecDepth 100000 in
theorem primaryAsked_lifted (os:Os) (started:os.Started) (H:Type) (enc:TypeId×Value→H) :
  ReturnsInHanded {} Tryz.checked os 7 .any (Rows.primaryAskedSpec.pre6 enc Tryz.prog Tryz.f7 Rows.primaryAskedRow.domain false) (Rows.primaryAskedSpec.post enc Tryz.prog Tryz.f7 false true false false):=by
 refine returnsInHanded_of_change_sized (C:=Tryz.checked) own started (by kernel_rfl) Tryz.func7
  (ChangeSpec.witness6 (enc:=enc) (C:=Tryz.checked) false ⟨#[],#[.agg #[.int .i64 0,.int .i64 0,.int .i64 0,.int .i64 0,.int .i64 0,.int .i64 0,.int .i64 0,.slice none 0 0,.slice none 0 0,.int .i64 0,.slice none 0 0,.slice none 0 0,.int .i64 0,.int .i64 0,.slice none 0 0,.slice none 0 0,.slice none 0 0]],[]⟩ 8 (by kernel_rfl) (by kernel_rfl) (by kernel_rfl) (by kernel_rfl)) ?_
 intro W base args ds gs before hval hW _ hsz _
 exact law_contract ttOk (f:=Tryz.f7) (tb:=4) (t:=33) rfl rfl Tryz.underlying4 rfl (fun _ _=>rfl) laidOut (by kernel_rfl) (of_decide_eq_true (by kernel_rfl)) 8 (by kernel_rfl) argS
  (fun W base v ds h1 h2=>argS_ok Tryz.underlying33 h1 h2)
  (fun ds hd=>by
    obtain ⟨p,hp,hok⟩:=askR_of hd
    rw [hp]
    exact primaryAsked_ok p hok) hval hW hsz
theorem jf1:Tryz.prog.inPlace 7=Rows.primaryAskedRow.inPlace:=by kernel_rfl
theorem jf2:Tryz.prog.unfollowed 7=Rows.primaryAskedRow.unfollowed:=by kernel_rfl
theorem jf3:Tryz.prog.recurses 7=Rows.primaryAskedRow.recurses:=by kernel_rfl
theorem jf4:Tryz.prog.varsNamed 7=Rows.primaryAskedRow.named:=by kernel_rfl
theorem jf5:mapsRowed Tryz.prog=true:=by kernel_rfl
theorem jf:joinedFacts Tryz.prog 7 Tryz.f7 Rows.primaryAskedSpec Rows.primaryAskedRow=true:=by
 unfold joinedFacts
 rw [jf1,jf2,jf3,jf4,jf5,laidOut]
 kernel_rfl
theorem primaryAsked_holds:Rows.PrimaryAskedSaid :=
 OpenClaim.holds_of_wide 7 Tryz.f7 rfl rfl rfl rfl rfl rfl rfl ⟨rfl,rfl,rfl,rfl,rfl⟩ rfl rfl rfl rfl rfl (by kernel_rfl) Tryz.func7 jf
  (of_decide_eq_true (by kernel_rfl)) (by unfold Func.isWrapper;first|(rw [if_pos (by decide +kernel)];kernel_rfl)|(rw [if_neg (by decide +kernel)];exact ⟨rfl,rfl⟩))
  (fun os started H enc _=>primaryAsked_lifted os started H enc)
#print axioms primaryAsked_holds
end Go.Proofs.YtolkmjfkkkiboaaGreat
