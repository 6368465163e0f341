/- PrimaryAsked: contracts. -/
import Derived.Test.YtolkmjfkkkiboaaGreatPrimaryAskedCodR
set_option linter.unusedVariables false
set_option linter.unusedSimpArgs false
namespace Go.Proofs.YtolkmjfkkkiboaaGreat
open Go.Ab Go.RowKit Go.MapKept
attribute [local irreducible] ACalls AW ADraw Into fltB fnear
set_option maxRecDepth 100000
theorem atV_at {l:List Vote} {r a:Int} {k:Nat} {v:Vote} (hv:l[k]? = some v) (h1:v.round=r∧v.author=a) (h2:∀ x∈l.take k,¬(x.round=r∧x.author=a)):atV l r a=some v:=by
 obtain ⟨hk,rfl⟩:=List.getElem?_eq_some_iff.1 hv
 rw [atV,List.find?_eq_some_iff_getElem]
 refine ⟨by simpa using h1,k,hk,rfl,fun j hj => ?_⟩
 have:=h2 l[j] (List.mem_take_iff_getElem.2 ⟨j,by omega,rfl⟩)
 simp only [Bool.not_eq_true',decide_eq_false_iff_not]
 exact this
theorem atV_no {l:List Vote} {r a:Int} (h:∀ x∈l,¬(x.round=r∧x.author=a)):atV l r a=none:=by
 rw [atV,List.find?_eq_none]
 intro x hx
 simpa using h x hx
theorem rHas_ok (l:List Vote) (hl:few l) (r a:Int):ACalls Tryz.prog 138 [.d (.sl 3 (votesD l)),.d (.int .i64 r),.d (.int .i64 a)] [] (fun av L=>av = .d (.int .i64 (voteAt l r a))∧L=[]):=by
 have hcl:=votesD_length l
 unfold few at hl
 (refine acalls_go ttOk zOk foOk Tryz.func138 rfl Tryz.ntmps138 rfl false rfl ?_);(conv=>whnf)
 refine rdw ?_;repeat' ((with_reducible apply tw)<;>intro _)
 refine loop_go ttOk zOk foOk (σ:=Nat) (fun k=>([(0,.d (.sl 3 (votesD l))),(1,.d (.int .i64 r)),(2,.d (.int .i64 a)),(7,.d (.int .i64 k))],[])) (fun k=>k≤l.length∧∀ x∈l.take k,¬(x.round=r∧x.author=a)) (fun k=>l.length - k) [0,1,2,7] ?_ ?_
 ·conv=>whnf
  exact ⟨0,rfl,rfl,Nat.zero_le _,fun x hx=>by simp at hx⟩
 ·rintro k ⟨hk,hno⟩
  conv=>whnf
  refine rdw ?_;repeat' ((with_reducible apply tw)<;>intro _)
  ·rename_i k1
   replace k1:(k:Int)<((votesD l).length:Int):=k1
   refine Exists.elim (⟨_,List.getElem?_eq_getElem (by omega)⟩:∃ v,l[k]? = some v) fun v hv => ?_
   have next:¬(v.round=r∧v.author=a)→∀ x∈l.take (k+1),¬(x.round=r∧x.author=a):=by
    intro hn x hx
    rw [List.take_add_one,hv] at hx
    rcases List.mem_append.1 hx with hx|hx
    ·exact hno x hx
    ·simp at hx;subst hx;exact hn
   refine ⟨by omega,v.cs,votesD_at hv,?_⟩
   conv=>whnf
   refine rdw ?_;repeat' ((with_reducible apply tw)<;>intro _)
   ·rename_i k2
    replace k2:v.round=r:=k2
    refine ⟨by omega,v.cs,votesD_at hv,?_⟩
    conv=>whnf
    refine rdw ?_;repeat' ((with_reducible apply tw)<;>intro _)
    ·rename_i k3
     replace k3:v.author=a:=k3
     refine ⟨by omega,v.cs,votesD_at hv,?_⟩
     conv=>whnf
     refine rdw ?_;repeat' ((with_reducible apply tw)<;>intro _)
     refine ⟨?_,rfl⟩
     rw [voteAt,atV_at hv ⟨k2,k3⟩ hno]
     rfl
    ·rename_i k3
     replace k3:v.author≠a:=k3
     exact ⟨k+1,rfl,rfl,⟨by omega,next fun h=>k3 h.2⟩,by omega⟩
   ·rename_i k2
    replace k2:v.round≠r:=k2
    exact ⟨k+1,rfl,rfl,⟨by omega,next fun h=>k2 h.1⟩,by omega⟩
  ·rename_i k1
   replace k1:¬(k:Int)<((votesD l).length:Int):=k1
   rw [List.take_of_length_le (by omega)] at hno
   refine ⟨?_,rfl⟩
   rw [voteAt,atV_no hno]
   rfl
theorem copyVotes_row (l:List Vote) (hl:l.length≤1099511627776):ACalls Tryz.prog 27 [.d (.sl 3 (votesD l))] [] (fun av L=>av = .arr 0∧L=[.row 106 3 (votesD l) false]):=by
 have hx:=votesD_length l
 (refine acalls_go ttOk zOk foOk Tryz.func27 rfl Tryz.ntmps27 rfl true rfl ?_);(conv=>whnf)
 refine loop_go ttOk zOk foOk (σ:=Nat) (fun j=>([(0,.d (.sl 3 (votesD l))),(3,.arr 0),(4,.d (.int .i64 j))],[.row 106 3 (votesD (l.take j)) false])) (fun j=>j≤l.length) (fun j=>l.length - j) [0,3,4] ?_ ?_
 ·conv=>whnf
  exact ⟨0,rfl,rfl,Nat.zero_le _⟩
 ·intro j hj
  have hlt:=List.length_take_le' j l
  have hxl:=votesD_length (l.take j)
  conv=>whnf
  refine rdw ?_;repeat' ((with_reducible apply tw)<;>intro _)
  ·rename_i h
   replace h:(j:Int)<((votesD l).length:Int):=h
   refine Exists.elim (⟨_,List.getElem?_eq_getElem (by omega)⟩:∃ c,l[j]? = some c) fun a ha => ?_
   refine ⟨by omega,a.cs,votesD_at ha,?_⟩
   conv=>whnf
   refine rdw ?_;repeat' ((with_reducible apply tw)<;>intro _)
   refine ⟨by show ((votesD (l.take j)).length+1) * 24≤_;omega,?_⟩
   conv=>whnf
   refine rdw ?_;repeat' ((with_reducible apply tw)<;>intro _)
   refine ⟨j+1,rfl,?_,by omega,by omega⟩
   rw [List.take_add_one,ha,show votesD (l.take j++(some a).toList)=votesD (l.take j)++[a.cs] by simp [votesD]]
   rfl
  ·rename_i h
   replace h:¬(j:Int)<((votesD l).length:Int):=h
   rw [List.take_of_length_le (by omega)]
   exact ⟨rfl,rfl⟩
def giSt (l:List Vote) (v:Vote) (k:Nat):AF×List AB:=([(0,.d (.sl 3 (votesD l))),(3,.ptr 0 0),(7,.d (.int .i64 k))],[.cells (v.cs.map AV.d)])
def plGi:Plan:=⟨[[],[],[1,0],[0,1,2],[],[4],[4,5,2,1,0,3],[3,0,1,2,5,4,6]],[0,1,2,4],[(3,[]),(5,[]),(6,[7])]⟩
def plGib:Plan:=⟨[[],[],[1,0],[0,1,2],[],[4],[4,5,2,1,0,3],[3,0,1,2,5,4,6]],[0,1,2,4],[(5,[]),(3,[]),(6,[7])]⟩
set_option maxHeartbeats 4000000 in
open Classical in
theorem rGive_ok (l:List Vote) (h:okVotes l) (v:Vote) (hv:okVote v):ACalls Tryz.prog 89 [.d (.sl 3 (votesD l)),v.av] [] (fun av L=>av = .tup [.d (.sl 3 (votesD (putV l v))),.d (.int .i64 (giveE l v))]∧L=[]):=by
 have hcl:=votesD_length l
 have hlen:=h.len
 have hps:=posV_le l v.round v.author
 have h1:=rVote_ok v
 rw [decide_eq_true hv] at h1
 have h2:=rHas_ok l h.few v.round v.author
 (refine acalls_go ttOk zOk foOk Tryz.func89 rfl Tryz.ntmps89 rfl false rfl ?_);(conv=>whnf)
 refine rdw ?_;repeat' ((with_reducible apply tw)<;>intro _)
 (refine (h1).mono ?_;rintro _ _ ⟨rfl,rfl⟩;(conv=>whnf))
 refine rdw ?_;repeat' ((with_reducible apply tw)<;>intro _)
 cases hat:atV l v.round v.author with
 | some y =>
   have hy:okVote y:=h.votes y (List.mem_of_find?_eq_some hat)
   have e0:voteAt l v.round v.author=y.digest:=by rw [voteAt,hat];rfl
   rw [e0] at h2
   have hyd:=hy.digest
   by_cases k1:y.digest=v.digest
   ·have e:giveE l v=4:=by rw [giveE,hat];simp only;rw [if_pos k1]
    rw [putV,if_neg (by omega),e]
    (refine (h2).mono ?_;rintro _ _ ⟨rfl,rfl⟩;(conv=>whnf))
    refine rdw ?_;repeat' ((with_reducible apply tw)<;>intro _)
    all_goals first|exact ⟨rfl,rfl⟩|exact absurd k1 (by assumption)
   ·have e:giveE l v=5:=by rw [giveE,hat];simp only;rw [if_neg k1]
    rw [putV,if_neg (by omega),e]
    (refine (h2).mono ?_;rintro _ _ ⟨rfl,rfl⟩;(conv=>whnf))
    refine rdw ?_;repeat' ((with_reducible apply tw)<;>intro _)
    all_goals first|exact ⟨rfl,rfl⟩|exact absurd (by assumption) k1|skip
    all_goals exact absurd (show y.digest>0 by omega) (by assumption)
 | none =>
   have e0:voteAt l v.round v.author=0:=by rw [voteAt,hat];rfl
   rw [e0] at h2
   have hvd:=hv.digest
   (refine (h2).mono ?_;rintro _ _ ⟨rfl,rfl⟩;(conv=>whnf))
   refine rdw ?_;repeat' ((with_reducible apply tw)<;>intro _)
   all_goals first|(rename_i k;exact absurd (show (0:Int)=v.digest from k) (by omega))|skip
   all_goals first|(rename_i k;exact absurd (show (0:Int)>0 from k) (by decide))|skip
   ·rename_i k
    replace k:((votesD l).length:Int)≥65536:=k
    have e:giveE l v=8:=by rw [giveE,hat];simp only;rw [if_pos (by omega)]
    rw [putV,if_neg (by omega),e]
    exact ⟨rfl,rfl⟩
   ·rename_i k
    replace k:¬((votesD l).length:Int)≥65536:=k
    have e:giveE l v=0:=by rw [giveE,hat];simp only;rw [if_neg (by omega)]
    rw [putV,if_pos e,e]
    refine loop_go ttOk zOk foOk (σ:=Nat) (giSt l v) (fun k=>k≤posV l v.round v.author) (fun k=>l.length - k) [0,3,7] ?_ ?_
    ·conv=>whnf
     exact ⟨0,rfl,rfl,Nat.zero_le _⟩
    ·intro i hii
     conv=>whnf
     ((with_reducible refine draw_pl ttOk zOk foOk mixedOk pl89x11 ?_ ?_);(focus kernel_rfl);(conv=>whnf))
     repeat' (first|(first|((with_reducible first|apply rd_intro|apply gd_and);(focus ((conv=>whnf)<;>first|rfl|(intro K hK;(conv=>whnf);first|exact hK|exact z_wrap (by omega) hK)));conv=>whnf)|((with_reducible apply z_wrap);(focus omega);conv=>whnf)|((with_reducible first|apply mt_dec|apply mt_eq|apply mt_ne|apply mt_not|apply mt_any)<;>(intro _;conv=>whnf)))|fail)
     ·rename_i k1
      replace k1:(i:Int)<((votesD l).length:Int):=k1
      refine Exists.elim (⟨_,List.getElem?_eq_getElem (by omega)⟩:∃ x,l[i]? = some x) fun x hx => ?_
      have hbf:=rBefore_ok x.round x.author v.round v.author
      have hii2:=posV_iff (r:=v.round) (a:=v.author) h.sorted hx
      rw [beforeV_iff] at hii2
      repeat' (first|(first|((with_reducible first|apply rd_intro|apply gd_and);(focus ((conv=>whnf)<;>first|rfl|(intro K hK;(conv=>whnf);first|exact hK|exact z_wrap (by omega) hK)));conv=>whnf)|((with_reducible apply z_wrap);(focus omega);conv=>whnf)|((with_reducible first|apply mt_dec|apply mt_eq|apply mt_ne|apply mt_not|apply mt_any)<;>(intro _;conv=>whnf)))|((with_reducible apply rd_intro);(focus (intro K hK;(conv=>whnf);exact ⟨by omega,x.cs,votesD_at hx,hK⟩));(conv=>whnf))|((with_reducible apply rd_intro);(focus (intro K hK;(conv=>whnf);exact ix_map hx (by first|rfl|omega) hK));(conv=>whnf))|((with_reducible apply rd_intro);(focus (intro K hK;(conv=>whnf);refine (hbf).mono ?_;rintro _ _ ⟨rfl,rfl⟩;(conv=>whnf);exact hK));(conv=>whnf))|((with_reducible apply gd_and);(focus ((conv=>whnf);intro K hK;(conv=>whnf);refine (hbf).mono ?_;rintro _ _ ⟨rfl,rfl⟩;(conv=>whnf);exact hK));(conv=>whnf))|(refine (hbf).mono ?_;rintro _ _ ⟨rfl,rfl⟩;(conv=>whnf))|fail)
      ·rename_i k2
       have k3:=hii2.1 k2
       exact ⟨i+1,rfl,rfl,(show i+1≤posV l v.round v.author by omega),(show l.length - (i+1)<l.length - i by omega)⟩
      ·rename_i k2
       have hie:i=posV l v.round v.author:=by
        have:¬i<posV l v.round v.author:=fun h=>k2 (hii2.2 h)
        omega
       subst hie
       clear hii
       have hs1:List.drop (Int.toNat 0) (List.take ((posV l v.round v.author:Int)).toNat (votesD l))=votesD (l.take (posV l v.round v.author)):=by
        rw [show (Int.toNat 0)=0 from rfl,List.drop_zero,show ((posV l v.round v.author:Int)).toNat=posV l v.round v.author from rfl]
        simp [votesD]
       have hcv:ACalls Tryz.prog 27 [.d (.sl 3 (List.drop (Int.toNat 0) (List.take ((posV l v.round v.author:Int)).toNat (votesD l))))] [] (fun av L=>av = .arr 0∧L=[.row 106 3 (votesD (l.take (posV l v.round v.author))) false]):=by
        rw [hs1]
        exact copyVotes_row (l.take (posV l v.round v.author)) (by simp;omega)
       have hs2:List.drop ((posV l v.round v.author:Int)).toNat (List.take ((votesD l).length:Int).toNat (votesD l))=votesD (l.drop (posV l v.round v.author)):=by
        rw [show ((posV l v.round v.author:Int)).toNat=posV l v.round v.author from rfl,show ((votesD l).length:Int).toNat=(votesD l).length from rfl,List.take_length]
        simp [votesD]
       have hl1:=votesD_length (l.take (posV l v.round v.author))
       have hl2:=votesD_length (l.drop (posV l v.round v.author))
       have hl3:(l.take (posV l v.round v.author)).length≤65536:=Nat.le_trans (List.length_take_le' ..) (by omega)
       have hl4:(l.drop (posV l v.round v.author)).length≤65536:=by rw [List.length_drop];omega
       have happ:votesD (l.take (posV l v.round v.author))++[[DV.int .i64 v.round,.int .i64 v.author,.int .i64 v.digest]]++votesD (l.drop (posV l v.round v.author))=votesD (insV l v):=by simp [insV,votesD,Vote.cs]
       (with_reducible refine draw_pl2 ttOk zOk foOk mixedOk plGi plGib ?_ ?_)
       focus kernel_rfl
       conv=>whnf
       refine rdw ?_;repeat' ((with_reducible apply tw)<;>intro _)
       ((with_reducible apply rd_intro);(focus (intro K hK;(conv=>whnf);exact ⟨by omega,by omega,by omega,hK⟩));(conv=>whnf))
       refine rdw ?_;repeat' ((with_reducible apply tw)<;>intro _)
       constructor
       all_goals
        conv=>whnf
        repeat' (first|((with_reducible apply gd_and);(focus ((conv=>whnf);intro K hK;(conv=>whnf);exact ⟨by omega,by omega,by omega,hK⟩));(conv=>whnf))|(first|((with_reducible first|apply rd_intro|apply gd_and);(focus ((conv=>whnf)<;>first|rfl|(intro K hK;(conv=>whnf);first|exact hK|exact z_wrap (by omega) hK)));conv=>whnf)|((with_reducible apply z_wrap);(focus omega);conv=>whnf)|((with_reducible first|apply mt_dec|apply mt_eq|apply mt_ne|apply mt_not|apply mt_any)<;>(intro _;conv=>whnf)))|fail)
        refine hcv.mono ?_
        rintro _ _ ⟨rfl,rfl⟩
        conv=>whnf
        repeat' (first|((with_reducible apply gd_and);(focus ((conv=>whnf);intro K hK;(conv=>whnf);exact ⟨by omega,by omega,by omega,hK⟩));(conv=>whnf))|(first|((with_reducible first|apply rd_intro|apply gd_and);(focus ((conv=>whnf)<;>first|rfl|(intro K hK;(conv=>whnf);first|exact hK|exact z_wrap (by omega) hK)));conv=>whnf)|((with_reducible apply z_wrap);(focus omega);conv=>whnf)|((with_reducible first|apply mt_dec|apply mt_eq|apply mt_ne|apply mt_not|apply mt_any)<;>(intro _;conv=>whnf)))|fail)
        refine ⟨by simp;omega,?_⟩
        conv=>whnf
        refine rdw ?_;repeat' ((with_reducible apply tw)<;>intro _)
        refine ⟨by omega,by omega,by omega,?_⟩
        conv=>whnf
        rw [hs2]
        refine ⟨by simp [votesD];omega,?_⟩
        conv=>whnf
        rw [happ]
        exact ⟨rfl,rfl⟩
     ·rename_i k1
      replace k1:¬(i:Int)<((votesD l).length:Int):=k1
      have hie:i=posV l v.round v.author:=by omega
      subst hie
      clear hii
      have hs1:List.drop (Int.toNat 0) (List.take ((posV l v.round v.author:Int)).toNat (votesD l))=votesD (l.take (posV l v.round v.author)):=by
       rw [show (Int.toNat 0)=0 from rfl,List.drop_zero,show ((posV l v.round v.author:Int)).toNat=posV l v.round v.author from rfl]
       simp [votesD]
      have hcv:ACalls Tryz.prog 27 [.d (.sl 3 (List.drop (Int.toNat 0) (List.take ((posV l v.round v.author:Int)).toNat (votesD l))))] [] (fun av L=>av = .arr 0∧L=[.row 106 3 (votesD (l.take (posV l v.round v.author))) false]):=by
       rw [hs1]
       exact copyVotes_row (l.take (posV l v.round v.author)) (by simp;omega)
      have hs2:List.drop ((posV l v.round v.author:Int)).toNat (List.take ((votesD l).length:Int).toNat (votesD l))=votesD (l.drop (posV l v.round v.author)):=by
       rw [show ((posV l v.round v.author:Int)).toNat=posV l v.round v.author from rfl,show ((votesD l).length:Int).toNat=(votesD l).length from rfl,List.take_length]
       simp [votesD]
      have hl1:=votesD_length (l.take (posV l v.round v.author))
      have hl2:=votesD_length (l.drop (posV l v.round v.author))
      have hl3:(l.take (posV l v.round v.author)).length≤65536:=Nat.le_trans (List.length_take_le' ..) (by omega)
      have hl4:(l.drop (posV l v.round v.author)).length≤65536:=by rw [List.length_drop];omega
      have happ:votesD (l.take (posV l v.round v.author))++[[DV.int .i64 v.round,.int .i64 v.author,.int .i64 v.digest]]++votesD (l.drop (posV l v.round v.author))=votesD (insV l v):=by simp [insV,votesD,Vote.cs]
      (with_reducible refine draw_pl2 ttOk zOk foOk mixedOk plGi plGib ?_ ?_)
      focus kernel_rfl
      conv=>whnf
      refine rdw ?_;repeat' ((with_reducible apply tw)<;>intro _)
      ((with_reducible apply rd_intro);(focus (intro K hK;(conv=>whnf);exact ⟨by omega,by omega,by omega,hK⟩));(conv=>whnf))
      refine rdw ?_;repeat' ((with_reducible apply tw)<;>intro _)
      constructor
      all_goals
       conv=>whnf
       repeat' (first|((with_reducible apply gd_and);(focus ((conv=>whnf);intro K hK;(conv=>whnf);exact ⟨by omega,by omega,by omega,hK⟩));(conv=>whnf))|(first|((with_reducible first|apply rd_intro|apply gd_and);(focus ((conv=>whnf)<;>first|rfl|(intro K hK;(conv=>whnf);first|exact hK|exact z_wrap (by omega) hK)));conv=>whnf)|((with_reducible apply z_wrap);(focus omega);conv=>whnf)|((with_reducible first|apply mt_dec|apply mt_eq|apply mt_ne|apply mt_not|apply mt_any)<;>(intro _;conv=>whnf)))|fail)
       refine hcv.mono ?_
       rintro _ _ ⟨rfl,rfl⟩
       conv=>whnf
       repeat' (first|((with_reducible apply gd_and);(focus ((conv=>whnf);intro K hK;(conv=>whnf);exact ⟨by omega,by omega,by omega,hK⟩));(conv=>whnf))|(first|((with_reducible first|apply rd_intro|apply gd_and);(focus ((conv=>whnf)<;>first|rfl|(intro K hK;(conv=>whnf);first|exact hK|exact z_wrap (by omega) hK)));conv=>whnf)|((with_reducible apply z_wrap);(focus omega);conv=>whnf)|((with_reducible first|apply mt_dec|apply mt_eq|apply mt_ne|apply mt_not|apply mt_any)<;>(intro _;conv=>whnf)))|fail)
       refine ⟨by simp;omega,?_⟩
       conv=>whnf
       refine rdw ?_;repeat' ((with_reducible apply tw)<;>intro _)
       refine ⟨by omega,by omega,by omega,?_⟩
       conv=>whnf
       rw [hs2]
       refine ⟨by simp [votesD];omega,?_⟩
       conv=>whnf
       rw [happ]
       exact ⟨rfl,rfl⟩
def hcs (c:Cert):List AV:=[.d (.int .i64 c.author),.d (.int .i64 c.round),.d (.sl 1 (nums c.bats)),.d (.sl 1 (nums c.pars))]
def aqB (p:Prim) (out:List Msg) (m:Msg) (bs:List Int) (j:Bool):List AB:=if j then [.cells (p.cs.map AV.d++[.arr 5]),.dead,.cells (m.cs.map AV.d),.cells (hcs m.head),.row 3 1 (nums bs) false,.row 49 18 (msgsD out) false] else [.cells (p.cs.map AV.d++[.arr 1]),.row 49 18 (msgsD out) false,.cells (m.cs.map AV.d),.cells (hcs m.head),.row 3 1 (nums bs) false]
def aqSt (p:Prim) (out:List Msg) (m:Msg) (held lk bs:List Int) (j:Bool) (k:Nat):AF×List AB:=([(0,.ptr 0 0),(2,.d (.sl 1 (nums held))),(4,.ptr 2 0),(6,.ptr 3 0),(8,.d (.sl 1 (nums lk))),(9,.arr 4),(10,.d (.int .i64 k))],aqB p out m bs j)
set_option maxHeartbeats 8000000 in
open Classical in
theorem asked20_ok (p:Prim) (hv:Valid p.dag) (hvo:okVotes p.votes) (hl:p.late.length≤256) (out:List Msg) (ho:out.length≤100000) (m:Msg) (n:Int) (hh:okHead n m.head) (hdg:1≤m.digest∧m.digest≤65536) (hne:m.src≠p.id) (held:List Int) (hhl:few held) :
  ACalls Tryz.prog 110 [.ptr 0 0,m.av,.d (.sl 1 (nums held))] (p.st out) (fun av L=>av = .tup []∧∃ j,L=(askedP p m held).sj j (out++askedO p m held)):=by
 have hnn:=of_decide_eq_true hh.isn
 have hrd:=hh.round
 have hau:=hh.author
 have hbl:=hh.bats.1
 have hpl:=hh.pars.1
 have hdl:=hv.len
 have hov:okVote (voteOf m):=⟨hrd,⟨hau.1,by have:=hau.2;have:=hnn.2;show m.head.author≤16;omega⟩,hdg⟩
 have hlkl:(lackI p.dag m.head).length≤1000:=by
  unfold lackI
  split
  ·exact Nat.zero_le _
  ·exact Nat.le_trans (List.length_filter_le ..) (by omega)
 have hlf:(freshI p.late (lackI p.dag m.head)).length≤1000:=Nat.le_trans (List.length_filter_le ..) hlkl
 have hlate:few p.late:=by unfold few;omega
 have hhas:=rHas_ok p.votes hvo.few m.head.round m.head.author
 have hlack:=rLacks_ok p.dag (by unfold few;omega) m.head (by omega) hrd
 rw [lacks_lack hv] at hlack
 have hlacks:=lacks20_ok p out hv hlate m.head (by omega) hrd
 have hwant:=wants20_ok p out (by omega) 8 m.src (freshI p.late (lackI p.dag m.head)) (by omega)
 rw [if_neg hne] at hwant
 obtain ⟨out1,hout1⟩:∃ o,out++wantO p m.src 8 (freshI p.late (lackI p.dag m.head))=o:=⟨_,rfl⟩
 rw [hout1] at hwant
 have hol1:out1.length≤200000:=by rw [← hout1,List.length_append,wantO,List.length_map,chunksI_length];unfold chn;omega
 have hbl2:=nums_length m.head.bats
 have hgive:=rGive_ok p.votes hvo (voteOf m) hov
 (refine acalls_go ttOk zOk foOk Tryz.func110 rfl Tryz.ntmps110 rfl false rfl ?_);(conv=>whnf)
 refine rdw ?_;repeat' ((with_reducible apply tw)<;>intro _)
 ((with_reducible refine draw_pl ttOk zOk foOk mixedOk pl110x2 ?_ ?_);(focus kernel_rfl);(conv=>whnf))
 refine rdw ?_;repeat' ((with_reducible apply tw)<;>intro _)
 ·rename_i h0
  refine ⟨rfl,false,?_⟩
  rw [askedP,if_pos h0,askedO,if_pos h0,List.append_nil]
  rfl
 ·rename_i h0
  ((with_reducible refine draw_pl ttOk zOk foOk mixedOk pl110x3 ?_ ?_);(focus kernel_rfl);(conv=>whnf))
  repeat' (first|(first|((with_reducible first|apply rd_intro|apply gd_and);(focus ((conv=>whnf)<;>first|rfl|(intro K hK;(conv=>whnf);first|exact hK|exact z_wrap (by omega) hK)));conv=>whnf)|((with_reducible apply z_wrap);(focus omega);conv=>whnf)|((with_reducible first|apply mt_dec|apply mt_eq|apply mt_ne|apply mt_not|apply mt_any)<;>(intro _;conv=>whnf)))|((with_reducible apply rd_intro);(focus (intro K hK;(conv=>whnf);refine (hhas).mono ?_;rintro _ _ ⟨rfl,rfl⟩;(conv=>whnf);exact hK));(conv=>whnf))|((with_reducible apply gd_and);(focus ((conv=>whnf);intro K hK;(conv=>whnf);refine (hhas).mono ?_;rintro _ _ ⟨rfl,rfl⟩;(conv=>whnf);exact hK));(conv=>whnf))|(refine (hhas).mono ?_;rintro _ _ ⟨rfl,rfl⟩;(conv=>whnf))|fail)
  ·rename_i h1 h2
   replace h1:voteAt p.votes m.head.round m.head.author>0:=h1
   replace h2:voteAt p.votes m.head.round m.head.author=m.digest:=h2
   have hte:=tells20_ok p out (by omega) ((tellV m).dstd m.src)
   rw [told_from] at hte
   rw [h2]
   refine (acalls_nw hte (.cons (.refl _) (.cons (.agg ?_) .nil))).mono ?_
   ·repeat (first|exact .nil|refine .cons (.refl _) ?_|refine .cons (.nils _ (by decide)) ?_)
   ·rintro _ _ ⟨rfl,rfl⟩
    conv=>whnf
    refine rdw ?_;repeat' ((with_reducible apply tw)<;>intro _)
    refine ⟨rfl,true,?_⟩
    rw [askedP,if_neg h0,if_pos h1,askedO,if_neg h0,if_pos h1,if_pos h2]
    rfl
  ·rename_i h1 h2
   replace h1:voteAt p.votes m.head.round m.head.author>0:=h1
   replace h2:¬voteAt p.votes m.head.round m.head.author=m.digest:=h2
   refine ⟨rfl,false,?_⟩
   rw [askedP,if_neg h0,if_pos h1,askedO,if_neg h0,if_pos h1,if_neg h2,List.append_nil]
   rfl
  ·rename_i h1
   replace h1:¬voteAt p.votes m.head.round m.head.author>0:=h1
   ((with_reducible refine draw_pl ttOk zOk foOk mixedOk pl110x7 ?_ ?_);(focus kernel_rfl);(conv=>whnf))
   repeat' (first|(first|((with_reducible first|apply rd_intro|apply gd_and);(focus ((conv=>whnf)<;>first|rfl|(intro K hK;(conv=>whnf);first|exact hK|exact z_wrap (by omega) hK)));conv=>whnf)|((with_reducible apply z_wrap);(focus omega);conv=>whnf)|((with_reducible first|apply mt_dec|apply mt_eq|apply mt_ne|apply mt_not|apply mt_any)<;>(intro _;conv=>whnf)))|((with_reducible apply rd_intro);(focus (intro K hK;(conv=>whnf);refine (hlack).mono ?_;rintro _ _ ⟨rfl,rfl⟩;(conv=>whnf);exact hK));(conv=>whnf))|((with_reducible apply gd_and);(focus ((conv=>whnf);intro K hK;(conv=>whnf);refine (hlack).mono ?_;rintro _ _ ⟨rfl,rfl⟩;(conv=>whnf);exact hK));(conv=>whnf))|(refine (hlack).mono ?_;rintro _ _ ⟨rfl,rfl⟩;(conv=>whnf))|fail)
   ((with_reducible refine draw_pl ttOk zOk foOk mixedOk pl110x8 ?_ ?_);(focus kernel_rfl);(conv=>whnf))
   repeat' (first|(first|((with_reducible first|apply rd_intro|apply gd_and);(focus ((conv=>whnf)<;>first|rfl|(intro K hK;(conv=>whnf);first|exact hK|exact z_wrap (by omega) hK)));conv=>whnf)|((with_reducible apply z_wrap);(focus omega);conv=>whnf)|((with_reducible first|apply mt_dec|apply mt_eq|apply mt_ne|apply mt_not|apply mt_any)<;>(intro _;conv=>whnf)))|((with_reducible apply rd_intro);(focus (intro K hK;(conv=>whnf);refine (hlacks).mono ?_;rintro _ _ ⟨rfl,rfl⟩;(conv=>whnf);exact hK));(conv=>whnf))|((with_reducible apply gd_and);(focus ((conv=>whnf);intro K hK;(conv=>whnf);refine (hlacks).mono ?_;rintro _ _ ⟨rfl,rfl⟩;(conv=>whnf);exact hK));(conv=>whnf))|(refine (hlacks).mono ?_;rintro _ _ ⟨rfl,rfl⟩;(conv=>whnf))|fail)
   refine hwant.mono ?_
   rintro _ _ ⟨rfl,j,rfl⟩
   cases j
   all_goals
    conv=>whnf
    refine rdw ?_;repeat' ((with_reducible apply tw)<;>intro _)
    first
     | (refine loop_go2 ttOk zOk foOk (σ:=List Int) (ρ:=Nat) (fun bs k=>aqSt p out1 m held (lackI p.dag m.head) bs false k) (fun bs k=>k≤m.head.bats.length∧bs=lackA held (m.head.bats.take k)) (fun _ k=>m.head.bats.length - k) [0,2,4,6,8,9,10] ?_ ?_
        focus (conv=>whnf
               exact ⟨[],0,rfl,rfl,Nat.zero_le _,by simp [lackA]⟩))
     | (refine loop_go2 ttOk zOk foOk (σ:=List Int) (ρ:=Nat) (fun bs k=>aqSt p out1 m held (lackI p.dag m.head) bs true k) (fun bs k=>k≤m.head.bats.length∧bs=lackA held (m.head.bats.take k)) (fun _ k=>m.head.bats.length - k) [0,2,4,6,8,9,10] ?_ ?_
        focus (conv=>whnf
               exact ⟨[],0,rfl,rfl,Nat.zero_le _,by simp [lackA]⟩))
    rintro bs k ⟨hk,hbs⟩
    have hfn:(nums bs).length≤m.head.bats.length:=by rw [nums_length,hbs];exact Nat.le_trans (List.length_filter_le ..) (List.length_take_le' ..)
    conv=>whnf
    refine rdw ?_;repeat' ((with_reducible apply tw)<;>intro _)
    ·rename_i hkl
     replace hkl:(k:Int)<((nums m.head.bats).length:Int):=hkl
     refine Exists.elim (⟨_,List.getElem?_eq_getElem (by omega)⟩:∃ x,m.head.bats[k]? = some x) fun x hx => ?_
     have hsn:=lackA_snoc held m.head.bats hx
     have hin:=in_ok held hhl x
     refine ⟨by omega,[.int .i64 x],nums_at hx,?_⟩
     conv=>whnf
     refine rdw ?_;repeat' ((with_reducible apply tw)<;>intro _)
     refine hin.mono ?_
     rintro _ _ ⟨rfl,rfl⟩
     conv=>whnf
     refine rdw ?_;repeat' ((with_reducible apply tw)<;>intro _)
     ·rename_i hi
      replace hi:inI held x<0:=hi
      have hm:x∉held:=fun h=>by have:=inI_iff.2 h;omega
      rw [if_neg hm,← hbs] at hsn
      refine ⟨by omega,[.int .i64 x],nums_at hx,?_⟩
      conv=>whnf
      refine rdw ?_;repeat' ((with_reducible apply tw)<;>intro _)
      refine ⟨by show ((nums bs).length+1) * 8≤_;omega,?_⟩
      conv=>whnf
      refine rdw ?_;repeat' ((with_reducible apply tw)<;>intro _)
      refine ⟨bs++[x],k+1,rfl,?_,⟨by omega,hsn.symm⟩,by omega⟩
      unfold aqSt aqB
      rw [← nums_apps]
      rfl
     ·rename_i hi
      replace hi:¬inI held x<0:=hi
      have hm:x∈held:=inI_iff.1 (by omega)
      rw [if_pos hm,List.append_nil,← hbs] at hsn
      exact ⟨bs,k+1,rfl,rfl,⟨by omega,hsn.symm⟩,by omega⟩
    ·rename_i hkl
     replace hkl:¬(k:Int)<((nums m.head.bats).length:Int):=hkl
     rw [List.take_of_length_le (by omega)] at hbs
     have hlb:lackA held m.head.bats=bs:=hbs.symm
     rw [nums_length] at hfn
     have hwant2:=wants20_ok p out1 (by omega) 7 m.src bs (by omega)
     rw [if_neg hne] at hwant2
     obtain ⟨out2,hout2⟩:∃ o,out1++wantO p m.src 7 bs=o:=⟨_,rfl⟩
     rw [hout2] at hwant2
     have hol:out2.length≤2200000:=by rw [← hout2,List.length_append,wantO,List.length_map,chunksI_length];unfold chn;omega
     have hbn:=nums_length bs
     have hln:=nums_length (lackI p.dag m.head)
     have hO:out++askedO p m held=out2++(if askQ p m held=true∧giveE p.votes (voteOf m)=0 then [(tellV m).told p m.src] else []):=by
      rw [askedO,if_neg h0,if_neg h1,hlb,← hout2,← hout1]
      simp only [List.append_assoc]
     conv=>whnf
     (refine Or.inl ?_;(conv=>whnf))
     refine hwant2.mono ?_
     rintro _ _ ⟨rfl,j,rfl⟩
     cases j
     all_goals
      conv=>whnf
      refine rdw ?_;repeat' ((with_reducible apply tw)<;>intro _)
      all_goals first
       | (have hq:((nums (lackI p.dag m.head)).length:Int)>0∨((nums bs).length:Int)>0:=by first|exact .inl (by assumption)|exact .inr (by assumption)
          have hq2:¬askQ p m held=true:=by
           unfold askQ
           rw [hlb]
           simp only [Bool.and_eq_true,decide_eq_true_iff]
           rintro ⟨e1,e2⟩
           rw [e1,e2] at hq
           revert hq
           decide
          have hP:askedP p m held=p:=by rw [askedP,if_neg h0,if_neg h1,if_neg hq2]
          rw [hO,if_neg (fun h=>hq2 h.1),List.append_nil,hP]
          first
           | exact ⟨rfl,false,rfl⟩
           | exact ⟨rfl,true,rfl⟩)
       | skip
      have hq2:askQ p m held=true:=by
       have g1:¬((nums (lackI p.dag m.head)).length:Int)>0:=by assumption
       have g2:¬((nums bs).length:Int)>0:=by assumption
       unfold askQ
       rw [hlb]
       simp only [Bool.and_eq_true,decide_eq_true_iff]
       exact ⟨List.eq_nil_of_length_eq_zero (by omega),List.eq_nil_of_length_eq_zero (by omega)⟩
      have hP:askedP p m held={ p with votes:=putV p.votes (voteOf m) }:=by rw [askedP,if_neg h0,if_neg h1,if_pos hq2]
      have hte:=tells20_ok { p with votes:=putV p.votes (voteOf m) } out2 (by omega) ((tellV m).dstd m.src)
      rw [told_from] at hte
      ((with_reducible refine draw_pl ttOk zOk foOk mixedOk pl110x17 ?_ ?_);(focus kernel_rfl);(conv=>whnf))
      repeat' (first|(first|((with_reducible first|apply rd_intro|apply gd_and);(focus ((conv=>whnf)<;>first|rfl|(intro K hK;(conv=>whnf);first|exact hK|exact z_wrap (by omega) hK)));conv=>whnf)|((with_reducible apply z_wrap);(focus omega);conv=>whnf)|((with_reducible first|apply mt_dec|apply mt_eq|apply mt_ne|apply mt_not|apply mt_any)<;>(intro _;conv=>whnf)))|((with_reducible apply rd_intro);(focus (intro K hK;(conv=>whnf);refine (hgive).mono ?_;rintro _ _ ⟨rfl,rfl⟩;(conv=>whnf);exact hK));(conv=>whnf))|((with_reducible apply gd_and);(focus ((conv=>whnf);intro K hK;(conv=>whnf);refine (hgive).mono ?_;rintro _ _ ⟨rfl,rfl⟩;(conv=>whnf);exact hK));(conv=>whnf))|(refine (hgive).mono ?_;rintro _ _ ⟨rfl,rfl⟩;(conv=>whnf))|fail)
      ·rename_i hg
       replace hg:giveE p.votes (voteOf m)=0:=hg
       rw [if_pos ⟨hq2,hg⟩] at hO
       rw [hO,hP]
       refine (acalls_nw hte (.cons (.refl _) (.cons (.agg ?_) .nil))).mono ?_
       ·repeat (first|exact .nil|refine .cons (.refl _) ?_|refine .cons (.nils _ (by decide)) ?_)
       ·rintro _ _ ⟨rfl,rfl⟩
        conv=>whnf
        refine rdw ?_;repeat' ((with_reducible apply tw)<;>intro _)
        exact ⟨rfl,true,rfl⟩
      ·rename_i hg
       replace hg:¬giveE p.votes (voteOf m)=0:=hg
       have hP2:askedP p m held=p:=by rw [hP,putV,if_neg hg]
       rw [hO,if_neg (fun h=>hg h.2),List.append_nil,hP2]
       first
        | exact ⟨rfl,false,rfl⟩
        | exact ⟨rfl,true,rfl⟩
set_option maxHeartbeats 8000000 in
open Classical in
theorem take20a_ok (p:Prim) (k1:May p) (hok:p.ok) (ht:p.tiny) (hr:p.dag.certs.length+p.late.length<60000) (m:Msg) (hf:m.fine) (hk:m.kind=4) (held:List Int) (hl:few held) :
  ACalls Tryz.prog 56 [p.av,m.av,.d (.sl 1 (nums held))] [] (fun av L=>(takeC p m held∧goodT (gotP p m held) (gotO p m held) av L)∨(¬takeC p m held∧badT p 1 av L)):=by
 have hcp:=copyPrim_ok p ht
 have h1:=pageX4 hf hk (n:=p.nodes)
 have h2:=rDigests_ok held hl
 have h3:=rRising_ok held hl
 (refine acalls_go ttOk zOk foOk Tryz.func56 rfl Tryz.ntmps56 rfl true rfl ?_);(conv=>whnf)
 refine rdz ?_;repeat' ((with_reducible apply tw)<;>intro _)
 (refine (hcp).mono ?_;rintro _ _ ⟨rfl,rfl⟩;(conv=>whnf))
 refine rdz ?_;repeat' ((with_reducible apply tw)<;>intro _)
 refine h1.mono ?_
 rintro _ _ ⟨rfl,rfl⟩
 by_cases k2:okMsg p.nodes m
 rotate_left
 ·rw [decide_eq_false k2]
  conv=>whnf
  refine rdz ?_;repeat' ((with_reducible apply tw)<;>intro _)
  exact .inr ⟨fun h=>k2 h.msg,rfl,rfl⟩
 rw [decide_eq_true k2]
 conv=>whnf
 refine rdz ?_;repeat' ((with_reducible apply tw)<;>intro _)
 ·rename_i k3
  exact .inr ⟨fun h=>k3 h.dst,rfl,rfl⟩
 rename_i k3
 replace k3:m.dst=p.id:=k3
 refine h2.mono ?_
 rintro _ _ ⟨rfl,rfl⟩
 by_cases k4:∀ x∈held,1≤x∧x≤65536
 rotate_left
 ·rw [decide_eq_false k4]
  conv=>whnf
  refine rdz ?_;repeat' ((with_reducible apply tw)<;>intro _)
  exact .inr ⟨fun h=>k4 h.held.2,rfl,rfl⟩
 rw [decide_eq_true k4]
 conv=>whnf
 refine rdz ?_;repeat' ((with_reducible apply tw)<;>intro _)
 refine h3.mono ?_
 rintro _ _ ⟨rfl,rfl⟩
 by_cases k5:risingI held
 rotate_left
 ·rw [decide_eq_false k5]
  conv=>whnf
  refine rdz ?_;repeat' ((with_reducible apply tw)<;>intro _)
  exact .inr ⟨fun h=>k5 h.held.1,rfl,rfl⟩
 rw [decide_eq_true k5]
 have hC:takeC p m held:=⟨k1,k2,k3,⟨k5,k4⟩⟩
 conv=>whnf
 refine rdz ?_;repeat' ((with_reducible apply tw)<;>intro _)
 all_goals first|exact absurd hk (show ¬m.kind=4 by omega)|skip
 have e1:gotP p m held=askedP p m held:=by rw [gotP,if_pos hk]
 have e2:gotO p m held=askedO p m held:=by rw [gotO,if_pos hk]
 have hh:=k2.ok.head hk
 have has:=asked20_ok p k1.dag k1.votes k1.late.len [] (Nat.zero_le _) m p.nodes hh.1 (k2.ok.dig (by omega)) (by rw [← k3];exact k2.ne) held hl
 rw [e1,e2]
 rw [List.nil_append] at has
 refine has.mono ?_
 rintro _ _ ⟨rfl,j,rfl⟩
 cases j
 all_goals
  conv=>whnf
  refine rdz ?_;repeat' ((with_reducible apply tw)<;>intro _)
  first
   | exact .inl ⟨hC,rfl,false,rfl⟩
   | exact .inl ⟨hC,rfl,true,rfl⟩
def fitK (k:Int) (av:AV) (L:List AB):Prop:=(∃ m:Msg,av=m.av∧m.small∧m.kind=k∧L=[])∨(∃ (m:Msg) (sg:List Int),av = .agg (mAr m 0)∧m.small∧sg.length≤3000∧m.kind=k∧L=[.row 3 1 (nums sg) false])∨∃ (m:Msg) (x:Int),av = .agg (mDr m 0)∧m.small∧m.kind=k∧L=[.row 3 1 (nums [x]) false]
theorem fitK1 {k:Int} {av:AV} (m:Msg) (h:av=m.av) (hs:m.small) (hk:m.kind=k:=by rfl):fitK k av [] := .inl ⟨m,h,hs,hk,rfl⟩
set_option maxHeartbeats 16000000 in
open Classical in
theorem fitK_row (p:Prim) (hok:p.ok) (hdl:p.dag.certs.length≤1000) (a:Act) (hl:a.m.small) (ha:i64 a.d):ACalls Tryz.prog 55 [p.av,a.av] [] (fitK a.m.kind):=by
 have hmay:=rMay20_ok p hok
 have hd2:=Int.tmod_lt_of_pos a.d (show (0:Int)<2 by decide)
 have hd3:=Int.lt_tmod_of_pos a.d (show (0:Int)<2 by decide)
 have hcm:=copyMsg_ok a.m hl
 have hcl:=certsD_length p.dag.certs
 (refine acalls_go ttOk zOk foOk Tryz.func55 rfl Tryz.ntmps55 rfl false rfl ?_);(conv=>whnf)
 refine rdw ?_;repeat' ((with_reducible apply tw)<;>intro _)
 (refine (hcm).mono ?_;rintro _ _ ⟨rfl,rfl⟩;(conv=>whnf))
 refine rdw ?_;repeat' ((with_reducible apply tw)<;>intro _)
 ·exact fitK1 a.m rfl hl
 ·rename_i k0
  refine hmay.mono ?_
  rintro _ _ ⟨rfl,rfl⟩
  by_cases k1:May p
  ·rw [decide_eq_true k1]
   have hid:=k1.id
   have hnn:=of_decide_eq_true k1.isn
   have htr:=topR_le k1.dag
   have htop:=rTop_ok p.dag (few_le 1000 hdl)
   have hround:=rRound_ok p.dag (few_le 1000 hdl) (by omega) (fun c hc=>certTiny_of k1.isn (by have:=k1.dag.certs c hc;rw [k1.same] at this;exact this)) (topR p.dag.certs+a.d.tmod 2 - 1)
   have hoc:(ofR p.dag.certs (topR p.dag.certs+a.d.tmod 2 - 1)).length≤p.dag.certs.length:=List.length_filter_le ..
   have hnd:((ofR p.dag.certs (topR p.dag.certs+a.d.tmod 2 - 1)).map (·.digest)).Nodup:=List.Pairwise.sublist (List.Sublist.map _ List.filter_sublist) k1.dag.dig
   obtain ⟨ol,hol⟩:∃ ol,ofR p.dag.certs (topR p.dag.certs+a.d.tmod 2 - 1)=ol:=⟨_,rfl⟩
   rw [hol] at hround hoc hnd
   have hoe:=certsD_length ol
   have hq:=rQuorum_ok p.nodes k1.isn
   conv=>whnf
   refine rdw ?_;repeat' ((with_reducible apply tw)<;>intro _)
   all_goals first
    | exact fitK1 a.m rfl hl
    | (refine ⟨by omega,fun z hz => ?_⟩
       replace hz:=tmod_pos (by omega) hz
       have hz1:0≤z∧z<p.nodes:=by rw [hz];exact ⟨Int.emod_nonneg _ (by omega),Int.emod_lt_of_pos _ (by omega)⟩
       clear hz
       conv=>whnf
       (refine rdw ?_;repeat' ((with_reducible apply tw)<;>intro _)))
    | skip
   all_goals first
    | exact fitK1 ⟨_,_,_,_,_,_,_,⟨_,_,_,_,0,[]⟩,⟨_,_,_,_,_,_⟩,_⟩ rfl ⟨hl.txs,hl.head,hl.cert,hl.digs,Nat.zero_le _⟩
    | (have kk:a.m.kind=5:=by assumption
       refine ⟨by decide,fun z1 hz1 => ?_⟩
       conv=>whnf
       refine rdw ?_;repeat' ((with_reducible apply tw)<;>intro _)
       all_goals exact fitK1 ⟨_,_,_,_,_,_,_,⟨_,_,_,_,0,[]⟩,⟨_,_,_,_,_,_⟩,_⟩ rfl ⟨hl.txs,hl.head,hl.cert,hl.digs,Nat.zero_le _⟩)
    | skip
   all_goals first
    | (have kk:a.m.kind=4:=by assumption
       refine ⟨by decide,fun z1 hz1 => ?_⟩
       conv=>whnf
       refine rdw ?_;repeat' ((with_reducible apply tw)<;>intro _)
       ·((with_reducible refine draw_pl ttOk zOk foOk mixedOk pl55x14 ?_ ?_);(focus kernel_rfl);(conv=>whnf))
        refine rdw ?_;repeat' ((with_reducible apply tw)<;>intro _)
        ((with_reducible apply rd_intro);(focus (intro K hK;(conv=>whnf);exact ⟨by decide,fun z hz=>by subst hz;exact hK⟩));(conv=>whnf))
        refine rdw ?_;repeat' ((with_reducible apply tw)<;>intro _)
        (refine (htop).mono ?_;rintro _ _ ⟨rfl,rfl⟩;(conv=>whnf))
        refine rdw ?_;repeat' ((with_reducible apply tw)<;>intro _)
        (refine (hround).mono ?_;rintro _ _ ⟨rfl,rfl⟩;(conv=>whnf))
        refine rdw ?_;repeat' ((with_reducible apply tw)<;>intro _)
        refine aw_nilsL [(3,10,1)] rfl ?_
        refine loop_go2 ttOk zOk foOk (σ:=List Int) (ρ:=Nat) (fit4 p a ⟨a.m.kind,(z+1),p.id,a.m.digest,a.m.ba,a.m.bn,a.m.txs,⟨(z+1),max 1 (topR p.dag.certs+a.d.tmod 2),a.m.head.bats,[],0,[]⟩,a.m.cert,a.m.digs⟩ ol) (accOk ol) (fun _ j=>ol.length - j) [2,3,4,5,7,8] ?_ ?_
        ·conv=>whnf
         exact ⟨[],0,rfl,rfl,accOk_nil ol⟩
        ·rintro acc j hac
         have hjl:=hac.le
         have hal:=hac.len
         conv=>whnf
         refine rdw ?_;repeat' ((with_reducible apply tw)<;>intro _)
         ·rename_i h
          replace h:(j:Int)<((certsD ol).length:Int):=h
          refine Exists.elim (⟨_,List.getElem?_eq_getElem (by omega)⟩:∃ c,ol[j]? = some c) fun c hc => ?_
          have hnot:=accOk_not hnd hac hc
          have hnx:=accOk_next hnd hac hc
          ((with_reducible refine draw_pl ttOk zOk foOk mixedOk pl55x20 ?_ ?_);(focus kernel_rfl);(conv=>whnf))
          refine rdw ?_;repeat' ((with_reducible apply tw)<;>intro _)
          ((with_reducible apply rd_intro);(focus (intro K hK;(conv=>whnf);exact ix_map hc (by first|rfl|omega) hK));(conv=>whnf))
          refine rdw ?_;repeat' ((with_reducible apply tw)<;>intro _)
          (refine (with_ok acc (by unfold tiny;omega) hac.ris c.digest hnot).mono ?_;rintro _ _ ⟨rfl,rfl⟩;(conv=>whnf))
          refine rdw ?_;repeat' ((with_reducible apply tw)<;>intro _)
          exact ⟨insI acc c.digest,j+1,rfl,rfl,hnx,by omega⟩
         ·exact fitK1 ⟨_,_,_,_,_,_,_,⟨_,_,_,acc,0,[]⟩,⟨_,_,_,_,_,_⟩,_⟩ rfl ⟨hl.txs,⟨hl.head.1,by show acc.length≤_;omega⟩,hl.cert,hl.digs,Nat.zero_le _⟩
       ·exact fitK1 ⟨_,_,_,_,_,_,_,⟨_,_,_,_,0,[]⟩,⟨_,_,_,_,_,_⟩,_⟩ rfl ⟨hl.txs,hl.head,hl.cert,hl.digs,Nat.zero_le _⟩)
    | (have kk:a.m.kind=4:=by assumption
       refine ⟨by decide,fun z1 hz1 => ?_⟩
       conv=>whnf
       refine rdw ?_;repeat' ((with_reducible apply tw)<;>intro _)
       ·((with_reducible refine draw_pl ttOk zOk foOk mixedOk pl55x14 ?_ ?_);(focus kernel_rfl);(conv=>whnf))
        refine rdw ?_;repeat' ((with_reducible apply tw)<;>intro _)
        ((with_reducible apply rd_intro);(focus (intro K hK;(conv=>whnf);exact ⟨by decide,fun z hz=>by subst hz;exact hK⟩));(conv=>whnf))
        refine rdw ?_;repeat' ((with_reducible apply tw)<;>intro _)
        (refine (htop).mono ?_;rintro _ _ ⟨rfl,rfl⟩;(conv=>whnf))
        refine rdw ?_;repeat' ((with_reducible apply tw)<;>intro _)
        (refine (hround).mono ?_;rintro _ _ ⟨rfl,rfl⟩;(conv=>whnf))
        refine rdw ?_;repeat' ((with_reducible apply tw)<;>intro _)
        refine aw_nilsL [(3,10,1)] rfl ?_
        refine loop_go2 ttOk zOk foOk (σ:=List Int) (ρ:=Nat) (fit4 p a ⟨a.m.kind,a.m.src,p.id,a.m.digest,a.m.ba,a.m.bn,a.m.txs,⟨a.m.src,max 1 (topR p.dag.certs+a.d.tmod 2),a.m.head.bats,[],0,[]⟩,a.m.cert,a.m.digs⟩ ol) (accOk ol) (fun _ j=>ol.length - j) [2,3,4,5,7,8] ?_ ?_
        ·conv=>whnf
         exact ⟨[],0,rfl,rfl,accOk_nil ol⟩
        ·rintro acc j hac
         have hjl:=hac.le
         have hal:=hac.len
         conv=>whnf
         refine rdw ?_;repeat' ((with_reducible apply tw)<;>intro _)
         ·rename_i h
          replace h:(j:Int)<((certsD ol).length:Int):=h
          refine Exists.elim (⟨_,List.getElem?_eq_getElem (by omega)⟩:∃ c,ol[j]? = some c) fun c hc => ?_
          have hnot:=accOk_not hnd hac hc
          have hnx:=accOk_next hnd hac hc
          ((with_reducible refine draw_pl ttOk zOk foOk mixedOk pl55x20 ?_ ?_);(focus kernel_rfl);(conv=>whnf))
          refine rdw ?_;repeat' ((with_reducible apply tw)<;>intro _)
          ((with_reducible apply rd_intro);(focus (intro K hK;(conv=>whnf);exact ix_map hc (by first|rfl|omega) hK));(conv=>whnf))
          refine rdw ?_;repeat' ((with_reducible apply tw)<;>intro _)
          (refine (with_ok acc (by unfold tiny;omega) hac.ris c.digest hnot).mono ?_;rintro _ _ ⟨rfl,rfl⟩;(conv=>whnf))
          refine rdw ?_;repeat' ((with_reducible apply tw)<;>intro _)
          exact ⟨insI acc c.digest,j+1,rfl,rfl,hnx,by omega⟩
         ·exact fitK1 ⟨_,_,_,_,_,_,_,⟨_,_,_,acc,0,[]⟩,⟨_,_,_,_,_,_⟩,_⟩ rfl ⟨hl.txs,⟨hl.head.1,by show acc.length≤_;omega⟩,hl.cert,hl.digs,Nat.zero_le _⟩
       ·exact fitK1 ⟨_,_,_,_,_,_,_,⟨_,_,_,_,0,[]⟩,⟨_,_,_,_,_,_⟩,_⟩ rfl ⟨hl.txs,hl.head,hl.cert,hl.digs,Nat.zero_le _⟩)
    | (have kk:a.m.kind=6:=by assumption
       refine ⟨by decide,fun z1 hz1 => ?_⟩
       conv=>whnf
       refine rdw ?_;repeat' ((with_reducible apply tw)<;>intro _)
       ·((with_reducible refine draw_pl ttOk zOk foOk mixedOk pl55x23 ?_ ?_);(focus kernel_rfl);(conv=>whnf))
        refine rdw ?_;repeat' ((with_reducible apply tw)<;>intro _)
        ((with_reducible apply rd_intro);(focus (intro K hK;(conv=>whnf);exact ⟨by decide,fun z hz=>by subst hz;exact hK⟩));(conv=>whnf))
        refine rdw ?_;repeat' ((with_reducible apply tw)<;>intro _)
        (refine (htop).mono ?_;rintro _ _ ⟨rfl,rfl⟩;(conv=>whnf))
        refine rdw ?_;repeat' ((with_reducible apply tw)<;>intro _)
        (refine (hround).mono ?_;rintro _ _ ⟨rfl,rfl⟩;(conv=>whnf))
        refine rdw ?_;repeat' ((with_reducible apply tw)<;>intro _)
        refine aw_nilsL [(3,14,1)] rfl ?_
        refine loop_go2 ttOk zOk foOk (σ:=List Int) (ρ:=Nat) (fit6 p a ⟨a.m.kind,(z+1),p.id,a.m.digest,a.m.ba,a.m.bn,a.m.txs,a.m.head,⟨a.m.cert.author,max 1 (topR p.dag.certs+a.d.tmod 2),a.m.cert.bats,[],a.m.cert.digest,a.m.cert.sigs⟩,a.m.digs⟩ ol) (accOk ol) (fun _ j=>ol.length - j) [2,3,4,5,10,11] ?_ ?_
        ·conv=>whnf
         exact ⟨[],0,rfl,rfl,accOk_nil ol⟩
        ·rintro acc j hac
         have hjl:=hac.le
         have hal:=hac.len
         conv=>whnf
         refine rdw ?_;repeat' ((with_reducible apply tw)<;>intro _)
         ·rename_i h
          replace h:(j:Int)<((certsD ol).length:Int):=h
          refine Exists.elim (⟨_,List.getElem?_eq_getElem (by omega)⟩:∃ c,ol[j]? = some c) fun c hc => ?_
          have hnot:=accOk_not hnd hac hc
          have hnx:=accOk_next hnd hac hc
          ((with_reducible refine draw_pl ttOk zOk foOk mixedOk pl55x29 ?_ ?_);(focus kernel_rfl);(conv=>whnf))
          refine rdw ?_;repeat' ((with_reducible apply tw)<;>intro _)
          ((with_reducible apply rd_intro);(focus (intro K hK;(conv=>whnf);exact ix_map hc (by first|rfl|omega) hK));(conv=>whnf))
          refine rdw ?_;repeat' ((with_reducible apply tw)<;>intro _)
          (refine (with_ok acc (by unfold tiny;omega) hac.ris c.digest hnot).mono ?_;rintro _ _ ⟨rfl,rfl⟩;(conv=>whnf))
          refine rdw ?_;repeat' ((with_reducible apply tw)<;>intro _)
          exact ⟨insI acc c.digest,j+1,rfl,rfl,hnx,by omega⟩
         ·(refine (within_ok a.d p.nodes (by omega) (by omega) ha).mono ?_;rintro _ _ ⟨rfl,rfl⟩;(conv=>whnf))
          have hwb:0≤(a.d % 18446744073709551616) % p.nodes∧(a.d % 18446744073709551616) % p.nodes<p.nodes:=⟨Int.emod_nonneg _ (by omega),Int.emod_lt_of_pos _ (by omega)⟩
          refine rdw ?_;repeat' ((with_reducible apply tw)<;>intro _)
          refine aw_nilrowC [(3,16,3,1)] rfl ?_
          refine loop_go2 ttOk zOk foOk (σ:=List Int) (ρ:=Nat) (fun s n=>fit7 p a ⟨a.m.kind,(z+1),p.id,a.m.digest,a.m.ba,a.m.bn,a.m.txs,a.m.head,⟨1+(a.d % 18446744073709551616) % p.nodes,max 1 (topR p.dag.certs+a.d.tmod 2),a.m.cert.bats,acc,a.m.cert.digest,[]⟩,a.m.digs⟩ s ((n:Int)+1)) (fun s n=>s.length=n∧n≤33) (fun _ n=>34 - n) [2,3,4,5,12] ?_ ?_
          ·conv=>whnf
           exact ⟨[],0,rfl,rfl,rfl,Nat.zero_le _⟩
          ·rintro sg n ⟨hsl,hn33⟩
           have hsn:=nums_length sg
           conv=>whnf
           refine rdw ?_;repeat' ((with_reducible apply tw)<;>intro _)
           (refine (hq).mono ?_;rintro _ _ ⟨rfl,rfl⟩;(conv=>whnf))
           refine rdw ?_;repeat' ((with_reducible apply tw)<;>intro _)
           ·rename_i hle
            replace hle:(n:Int)+1≤2 * ((p.nodes - 1) / 3)+1:=hle
            refine ⟨by show ((nums sg).length+1) * 8≤_;omega,?_⟩
            conv=>whnf
            refine rdw ?_;repeat' ((with_reducible apply tw)<;>intro _)
            refine ⟨sg++[(n:Int)+1],n+1,rfl,?_,⟨by simp;omega,by omega⟩,by omega⟩
            rw [fit7,← nums_apps]
            rfl
           ·exact .inr (.inl ⟨⟨_,_,_,_,_,_,_,⟨_,_,_,_,0,[]⟩,⟨_,_,_,acc,_,[]⟩,_⟩,sg,rfl,⟨hl.txs,hl.head,⟨hl.cert.1,by show acc.length≤_;omega,Nat.zero_le _⟩,hl.digs,Nat.zero_le _⟩,by omega,rfl,rfl⟩)
       ·exact fitK1 ⟨_,_,_,_,_,_,_,⟨_,_,_,_,0,[]⟩,⟨_,_,_,_,_,_⟩,_⟩ rfl ⟨hl.txs,hl.head,hl.cert,hl.digs,Nat.zero_le _⟩)
    | (have kk:a.m.kind=6:=by assumption
       refine ⟨by decide,fun z1 hz1 => ?_⟩
       conv=>whnf
       refine rdw ?_;repeat' ((with_reducible apply tw)<;>intro _)
       ·((with_reducible refine draw_pl ttOk zOk foOk mixedOk pl55x23 ?_ ?_);(focus kernel_rfl);(conv=>whnf))
        refine rdw ?_;repeat' ((with_reducible apply tw)<;>intro _)
        ((with_reducible apply rd_intro);(focus (intro K hK;(conv=>whnf);exact ⟨by decide,fun z hz=>by subst hz;exact hK⟩));(conv=>whnf))
        refine rdw ?_;repeat' ((with_reducible apply tw)<;>intro _)
        (refine (htop).mono ?_;rintro _ _ ⟨rfl,rfl⟩;(conv=>whnf))
        refine rdw ?_;repeat' ((with_reducible apply tw)<;>intro _)
        (refine (hround).mono ?_;rintro _ _ ⟨rfl,rfl⟩;(conv=>whnf))
        refine rdw ?_;repeat' ((with_reducible apply tw)<;>intro _)
        refine aw_nilsL [(3,14,1)] rfl ?_
        refine loop_go2 ttOk zOk foOk (σ:=List Int) (ρ:=Nat) (fit6 p a ⟨a.m.kind,a.m.src,p.id,a.m.digest,a.m.ba,a.m.bn,a.m.txs,a.m.head,⟨a.m.cert.author,max 1 (topR p.dag.certs+a.d.tmod 2),a.m.cert.bats,[],a.m.cert.digest,a.m.cert.sigs⟩,a.m.digs⟩ ol) (accOk ol) (fun _ j=>ol.length - j) [2,3,4,5,10,11] ?_ ?_
        ·conv=>whnf
         exact ⟨[],0,rfl,rfl,accOk_nil ol⟩
        ·rintro acc j hac
         have hjl:=hac.le
         have hal:=hac.len
         conv=>whnf
         refine rdw ?_;repeat' ((with_reducible apply tw)<;>intro _)
         ·rename_i h
          replace h:(j:Int)<((certsD ol).length:Int):=h
          refine Exists.elim (⟨_,List.getElem?_eq_getElem (by omega)⟩:∃ c,ol[j]? = some c) fun c hc => ?_
          have hnot:=accOk_not hnd hac hc
          have hnx:=accOk_next hnd hac hc
          ((with_reducible refine draw_pl ttOk zOk foOk mixedOk pl55x29 ?_ ?_);(focus kernel_rfl);(conv=>whnf))
          refine rdw ?_;repeat' ((with_reducible apply tw)<;>intro _)
          ((with_reducible apply rd_intro);(focus (intro K hK;(conv=>whnf);exact ix_map hc (by first|rfl|omega) hK));(conv=>whnf))
          refine rdw ?_;repeat' ((with_reducible apply tw)<;>intro _)
          (refine (with_ok acc (by unfold tiny;omega) hac.ris c.digest hnot).mono ?_;rintro _ _ ⟨rfl,rfl⟩;(conv=>whnf))
          refine rdw ?_;repeat' ((with_reducible apply tw)<;>intro _)
          exact ⟨insI acc c.digest,j+1,rfl,rfl,hnx,by omega⟩
         ·(refine (within_ok a.d p.nodes (by omega) (by omega) ha).mono ?_;rintro _ _ ⟨rfl,rfl⟩;(conv=>whnf))
          have hwb:0≤(a.d % 18446744073709551616) % p.nodes∧(a.d % 18446744073709551616) % p.nodes<p.nodes:=⟨Int.emod_nonneg _ (by omega),Int.emod_lt_of_pos _ (by omega)⟩
          refine rdw ?_;repeat' ((with_reducible apply tw)<;>intro _)
          refine aw_nilrowC [(3,16,3,1)] rfl ?_
          refine loop_go2 ttOk zOk foOk (σ:=List Int) (ρ:=Nat) (fun s n=>fit7 p a ⟨a.m.kind,a.m.src,p.id,a.m.digest,a.m.ba,a.m.bn,a.m.txs,a.m.head,⟨1+(a.d % 18446744073709551616) % p.nodes,max 1 (topR p.dag.certs+a.d.tmod 2),a.m.cert.bats,acc,a.m.cert.digest,[]⟩,a.m.digs⟩ s ((n:Int)+1)) (fun s n=>s.length=n∧n≤33) (fun _ n=>34 - n) [2,3,4,5,12] ?_ ?_
          ·conv=>whnf
           exact ⟨[],0,rfl,rfl,rfl,Nat.zero_le _⟩
          ·rintro sg n ⟨hsl,hn33⟩
           have hsn:=nums_length sg
           conv=>whnf
           refine rdw ?_;repeat' ((with_reducible apply tw)<;>intro _)
           (refine (hq).mono ?_;rintro _ _ ⟨rfl,rfl⟩;(conv=>whnf))
           refine rdw ?_;repeat' ((with_reducible apply tw)<;>intro _)
           ·rename_i hle
            replace hle:(n:Int)+1≤2 * ((p.nodes - 1) / 3)+1:=hle
            refine ⟨by show ((nums sg).length+1) * 8≤_;omega,?_⟩
            conv=>whnf
            refine rdw ?_;repeat' ((with_reducible apply tw)<;>intro _)
            refine ⟨sg++[(n:Int)+1],n+1,rfl,?_,⟨by simp;omega,by omega⟩,by omega⟩
            rw [fit7,← nums_apps]
            rfl
           ·exact .inr (.inl ⟨⟨_,_,_,_,_,_,_,⟨_,_,_,_,0,[]⟩,⟨_,_,_,acc,_,[]⟩,_⟩,sg,rfl,⟨hl.txs,hl.head,⟨hl.cert.1,by show acc.length≤_;omega,Nat.zero_le _⟩,hl.digs,Nat.zero_le _⟩,by omega,rfl,rfl⟩)
       ·exact fitK1 ⟨_,_,_,_,_,_,_,⟨_,_,_,_,0,[]⟩,⟨_,_,_,_,_,_⟩,_⟩ rfl ⟨hl.txs,hl.head,hl.cert,hl.digs,Nat.zero_le _⟩)
    | (have kk:a.m.kind=8:=by assumption
       have hpos:((certsD p.dag.certs).length:Int)>0:=by assumption
       have hwt:=within_ok a.d p.dag.certs.length (by omega) (by omega) ha
       have hwb:0≤(a.d % 18446744073709551616) % (p.dag.certs.length:Int)∧(a.d % 18446744073709551616) % (p.dag.certs.length:Int)<p.dag.certs.length:=⟨Int.emod_nonneg _ (by omega),Int.emod_lt_of_pos _ (by omega)⟩
       obtain ⟨w,hw⟩:∃ w:Int,(a.d % 18446744073709551616) % (p.dag.certs.length:Int)=w:=⟨_,rfl⟩
       rw [hw] at hwt hwb
       rw [← hcl] at hwt
       refine Exists.elim (⟨_,List.getElem?_eq_getElem (by omega)⟩:∃ c,p.dag.certs[w.toNat]? = some c) fun c hc => ?_
       ((with_reducible refine draw_pl ttOk zOk foOk mixedOk pl55x38 ?_ ?_);(focus kernel_rfl);(conv=>whnf))
       refine rdw ?_;repeat' ((with_reducible apply tw)<;>intro _)
       (refine (hwt).mono ?_;rintro _ _ ⟨rfl,rfl⟩;(conv=>whnf))
       repeat' (first|(first|((with_reducible first|apply rd_intro|apply gd_and);(focus ((conv=>whnf)<;>first|rfl|(intro K hK;(conv=>whnf);first|exact hK|exact z_wrap (by omega) hK)));conv=>whnf)|((with_reducible apply z_wrap);(focus omega);conv=>whnf)|((with_reducible first|apply mt_dec|apply mt_eq|apply mt_ne|apply mt_not|apply mt_any)<;>(intro _;conv=>whnf)))|((with_reducible apply gd_and);(focus ((conv=>whnf);intro K hK;(conv=>whnf);exact ⟨by omega,c.cs,certsD_at hc,hK⟩));(conv=>whnf))|((with_reducible apply rd_intro);(focus (intro K hK;(conv=>whnf);exact ⟨by omega,c.cs,certsD_at hc,hK⟩));(conv=>whnf)))
       exact .inr (.inr ⟨⟨_,_,_,_,_,_,_,⟨_,_,_,_,0,[]⟩,⟨_,_,_,_,_,_⟩,[]⟩,c.digest,rfl,⟨hl.txs,hl.head,hl.cert,Nat.zero_le _,Nat.zero_le _⟩,rfl,rfl⟩))
  ·rw [decide_eq_false k1]
   conv=>whnf
   refine rdw ?_;repeat' ((with_reducible apply tw)<;>intro _)
   exact fitK1 a.m rfl hl
theorem fitK_ok (p:Prim) (hok:p.ok) (hdl:p.dag.certs.length≤1000) (a:Act) (hl:a.m.small) (ha:i64 a.d):ACalls Tryz.prog 55 [p.av,a.av] [] (fun av L=>(∃ m:Msg,av=m.av∧m.small∧m.kind=a.m.kind)∧L=[]):=by
 refine acalls_data (fitK_row p hok hdl a hl ha) ?_
 rintro _ _ (⟨m,rfl,hs,hk,rfl⟩|⟨m,sg,rfl,hs,hsg,hk,rfl⟩|⟨m,x,rfl,hs,hk,rfl⟩)
 ·conv=>whnf
  exact ⟨⟨m,rfl,hs,hk⟩,rfl⟩
 ·conv=>whnf
  exact ⟨⟨⟨m.kind,m.src,m.dst,m.digest,m.ba,m.bn,m.txs,m.head,⟨m.cert.author,m.cert.round,m.cert.bats,m.cert.pars,m.cert.digest,sg⟩,m.digs⟩,rfl,⟨hs.txs,hs.head,⟨hs.cert.1,hs.cert.2.1,hsg⟩,hs.digs,hs.sigs⟩,hk⟩,rfl⟩
 ·conv=>whnf
  exact ⟨⟨⟨m.kind,m.src,m.dst,m.digest,m.ba,m.bn,m.txs,m.head,m.cert,[x]⟩,rfl,⟨hs.txs,hs.head,hs.cert,by show 1≤3000;omega,hs.sigs⟩,hk⟩,rfl⟩
end Go.Proofs.YtolkmjfkkkiboaaGreat
set_option linter.unusedVariables false
set_option linter.unusedSimpArgs false
open Go Go.Claim Go.Proofs
namespace Go.Proofs.YtolkmjfkkkiboaaGreat
open Go.Ab Go.RowKit Go.MapKept
attribute [local irreducible] ACalls AW ADraw Into fltB fnear
set_option maxRecDepth 100000
theorem Spoil.newset {lo n:Nat} {w x:World} (h:Spoil lo n w x) (hbl:∀ b,lo≤b→b<lo+n→b<w.heap.size) {b o:Nat} {u:Value} (hb:w.heap.size≤b):Spoil lo n w (x.setCell ⟨b,o,none⟩ u):=by
 refine ⟨h.os,h.tape,h.output,by rw [setCell_size];exact h.size,fun y hy hn=>by rw [setCell_ne (by omega)];exact h.block y hy hn,fun k m v hv => ?_,h.like.trans ?_⟩
 ·refine SL_mono (fun y g1 g2 cur e m hh => ?_) k m v (h.sl _ _ _ hv)
  have:=hbl y g1 g2
  rw [setCell_ne (by omega)];exact hh
 ·intro y c1 e1 m1 k1 k2
  by_cases hx:y=b
  ·subst hx
   exact ⟨_,_,setCell_at k1,by simp,by rw [Array.size_setIfInBounds];exact k2⟩
  ·exact ⟨c1,m1,by rw [setCell_ne hx];exact k1,rfl,k2⟩
theorem Spoil.newsets {lo n:Nat} {w:World} (hbl:∀ b,lo≤b→b<lo+n→b<w.heap.size) {b:Nat} (hb:w.heap.size≤b):∀ (us:List Value) (o:Nat) (x:World),Spoil lo n w x→Spoil lo n w (x.setCells b o us)
 | [],_,_,h=>h
 | u :: r,o,x,h=>Spoil.newsets hbl hb r (o+1) _ (Spoil.newset h hbl hb)
theorem setCells_at {b:Nat} {e:TypeId} {mk:Nat×Nat}:∀ (us:List Value) (o:Nat) (x:World) (cur:Array Value),x.heap[b]? = some (.cells cur e mk)→o+us.length≤cur.size →
  ∃ cur',(x.setCells b o us).heap[b]? = some (.cells cur' e mk)∧cur'.toList=cur.toList.take o++us++cur.toList.drop (o+us.length)
 | [],o,x,cur,h,_=>⟨cur,h,by simp⟩
 | u :: r,o,x,cur,h,hl=>by
   rw [List.length_cons] at hl
   obtain ⟨c',k1,k2⟩:=setCells_at r (o+1) (x.setCell ⟨b,o,none⟩ u) (cur.setIfInBounds o u) (setCell_at h) (by rw [Array.size_setIfInBounds];omega)
   refine ⟨c',k1,?_⟩
   rw [k2,Array.toList_setIfInBounds,List.length_cons,List.drop_set_of_lt (by omega),show o+1+r.length=o+(r.length+1) by omega]
   congr 1
   rw [List.take_add_one,List.getElem?_set_self (by rw [Array.length_toList];omega),List.take_set_of_le (Nat.le_refl _)]
   simp
def newM:List Value:=[.int .i64 (-9),.int .i64 0,.int .i64 0,.int .i64 0,.int .i64 0,.int .i64 0,.slice none 0 0,.int .i64 0,.int .i64 0,.slice none 0 0,.slice none 0 0,.int .i64 0,.int .i64 0,.slice none 0 0,.slice none 0 0,.int .i64 0,.slice none 0 0,.slice none 0 0]
set_option maxHeartbeats 2000000 in
set_option maxRecDepth 100000 in
theorem messages_lit (lo n k:Nat) (w:World) (z0 z1 z2 z3 z4 z5 z7 z8 z11 z12 z15:Int) (v6 v9 v10 v13 v14 v16 v17:Value) (h6:SL lo n w (k+2) 4 v6) (h9:SL lo n w (k+2) 1 v9) (h10:SL lo n w (k+2) 1 v10) (h13:SL lo n w (k+2) 1 v13) (h14:SL lo n w (k+2) 1 v14) (h16:SL lo n w (k+2) 1 v16) (h17:SL lo n w (k+2) 1 v17) (hbl:∀ b,lo≤b→b<lo+n→b<w.heap.size) :
  Calls Tryz.prog 60 #[.slice (some ⟨w.heap.size,0,none⟩) 1 1] (w.alloc (.cells #[.int .i64 z0,.int .i64 z1,.int .i64 z2,.int .i64 z3,.int .i64 z4,.int .i64 z5,v6,.int .i64 z7,.int .i64 z8,v9,v10,.int .i64 z11,.int .i64 z12,v13,v14,.int .i64 z15,v16,v17] 49)) fun e w'=>e = .returned (.tuple #[])∧Spoil lo n w w':=by
 obtain ⟨p6,l6,k6,rfl⟩:=sl_slice h6
 obtain ⟨p9,l9,k9,rfl⟩:=sl_slice h9
 obtain ⟨p10,l10,k10,rfl⟩:=sl_slice h10
 obtain ⟨p13,l13,k13,rfl⟩:=sl_slice h13
 obtain ⟨p14,l14,k14,rfl⟩:=sl_slice h14
 obtain ⟨p16,l16,k16,rfl⟩:=sl_slice h16
 obtain ⟨p17,l17,k17,rfl⟩:=sl_slice h17
 obtain ⟨cs,hcs⟩:∃ cs:Array Value,cs = #[.int .i64 z0,.int .i64 z1,.int .i64 z2,.int .i64 z3,.int .i64 z4,.int .i64 z5,.slice p6 l6 k6,.int .i64 z7,.int .i64 z8,.slice p9 l9 k9,.slice p10 l10 k10,.int .i64 z11,.int .i64 z12,.slice p13 l13 k13,.slice p14 l14 k14,.int .i64 z15,.slice p16 l16 k16,.slice p17 l17 k17]:=⟨_,rfl⟩
 rw [← hcs]
 have hA:=Spoil.keeps hbl (Keeps.alloc w (.cells cs 49))
 have hnew:=heap_alloc_new w (.cells cs 49)
 obtain ⟨w1,hw1⟩:∃ w1,w.alloc (.cells cs 49)=w1:=⟨_,rfl⟩
 have hsz1:w.heap.size<w1.heap.size:=by rw [← hw1];simp
 rw [hw1] at hA hnew ⊢
 have hbl1:∀ b,lo≤b→b<lo+n→b<w1.heap.size:=fun b g1 g2=>Nat.lt_of_lt_of_le (hbl b g1 g2) hA.size
 have hout:¬(lo≤w.heap.size∧w.heap.size<lo+n):=isle_out hbl (Nat.le_refl _)
 replace h6:=hA.sl _ _ _ h6
 replace h9:=hA.sl _ _ _ h9
 replace h10:=hA.sl _ _ _ h10
 replace h13:=hA.sl _ _ _ h13
 replace h14:=hA.sl _ _ _ h14
 replace h16:=hA.sl _ _ _ h16
 replace h17:=hA.sl _ _ _ h17
 go_enter Tryz.func60,Tryz.ntmps60
 go_wp2
 go_loopw [2] (fun i wr=>∃ j:Nat,i = .int .i64 j∧((j=0∧Spoil lo n w1 wr)∨(j=1∧Spoil lo n w wr∧∃ cur,wr.heap[w.heap.size]? = some (.cells cur 49 (0,0))∧cur.toList=newM)))
  (fun i _=>1 - (intOf i).toNat)
 case atStart=>exact ⟨0,rfl,.inl ⟨rfl,Spoil.refl _ _ _⟩⟩
 case round =>
  obtain ⟨j,rfl,⟨rfl,hS⟩|⟨rfl,hS,cur,hcur,hcl⟩⟩:=hrel
  ·have hblr:∀ b,lo≤b→b<lo+n→b<wr.heap.size:=fun b h1 h2=>Nat.lt_of_lt_of_le (hbl1 b h1 h2) hS.size
   have hh0:wr.heap[w.heap.size]? = some (.cells cs 49 (0,0)):=(hS.block _ hsz1 hout).trans hnew
   have c6:wr.cell? ⟨w.heap.size,6,none⟩=some (.slice p6 l6 k6):=by rw [cell_of_row _ _ 6 _ _ _ hh0,hcs];rfl
   have hT0:=hS
   go_wp2_with (go_at_call 120;(with_reducible refine (txs_sp lo n (k+1) _ _ (hT0.sl _ _ _ h6) hblr).mono ?_);rintro e w2 ⟨rfl,hS1⟩;clear c6;have hT1:=hT0.trans hS1;have hbl2:∀ b,lo≤b→b<lo+n→b<w2.heap.size:=fun b h1 h2=>Nat.lt_of_lt_of_le (hbl1 b h1 h2) hT1.size;have hh1:w2.heap[w.heap.size]? = some (.cells cs 49 (0,0)):=(hT1.block _ hsz1 hout).trans hnew;have c7:w2.cell? ⟨w.heap.size,7,none⟩=some (.int .i64 z7):=(by rw [cell_of_row _ _ 7 _ _ _ hh1,hcs];rfl);have c8:w2.cell? ⟨w.heap.size,8,none⟩=some (.int .i64 z8):=(by rw [cell_of_row _ _ 8 _ _ _ hh1,hcs];rfl);have c9:w2.cell? ⟨w.heap.size,9,none⟩=some (.slice p9 l9 k9):=(by rw [cell_of_row _ _ 9 _ _ _ hh1,hcs];rfl);have c10:w2.cell? ⟨w.heap.size,10,none⟩=some (.slice p10 l10 k10):=(by rw [cell_of_row _ _ 10 _ _ _ hh1,hcs];rfl))
   go_wp2_with (go_at_call 47;(with_reducible refine (header_sp lo n (k+1) _ z7 z8 _ _ (hT1.sl _ _ _ h9) (hT1.sl _ _ _ h10) hbl2).mono ?_);rintro e w3 ⟨rfl,hS2⟩;clear c7 c8 c9 c10;have hT2:=hT1.trans hS2;have hbl3:∀ b,lo≤b→b<lo+n→b<w3.heap.size:=fun b h1 h2=>Nat.lt_of_lt_of_le (hbl1 b h1 h2) hT2.size;have hh2:w3.heap[w.heap.size]? = some (.cells cs 49 (0,0)):=(hT2.block _ hsz1 hout).trans hnew;have c11:w3.cell? ⟨w.heap.size,11,none⟩=some (.int .i64 z11):=(by rw [cell_of_row _ _ 11 _ _ _ hh2,hcs];rfl);have c12:w3.cell? ⟨w.heap.size,12,none⟩=some (.int .i64 z12):=(by rw [cell_of_row _ _ 12 _ _ _ hh2,hcs];rfl);have c13:w3.cell? ⟨w.heap.size,13,none⟩=some (.slice p13 l13 k13):=(by rw [cell_of_row _ _ 13 _ _ _ hh2,hcs];rfl);have c14:w3.cell? ⟨w.heap.size,14,none⟩=some (.slice p14 l14 k14):=(by rw [cell_of_row _ _ 14 _ _ _ hh2,hcs];rfl);have c15:w3.cell? ⟨w.heap.size,15,none⟩=some (.int .i64 z15):=(by rw [cell_of_row _ _ 15 _ _ _ hh2,hcs];rfl);have c16:w3.cell? ⟨w.heap.size,16,none⟩=some (.slice p16 l16 k16):=(by rw [cell_of_row _ _ 16 _ _ _ hh2,hcs];rfl))
   go_wp2_with (go_at_call 121;(with_reducible refine (cert_sp lo n (k+1) _ z11 z12 z15 _ _ _ (hT2.sl _ _ _ h13) (hT2.sl _ _ _ h14) (hT2.sl _ _ _ h16) hbl3).mono ?_);rintro e w4 ⟨rfl,hS3⟩;clear c11 c12 c13 c14 c15 c16;have hT3:=hT2.trans hS3;have hbl4:∀ b,lo≤b→b<lo+n→b<w4.heap.size:=fun b h1 h2=>Nat.lt_of_lt_of_le (hbl1 b h1 h2) hT3.size;have hh3:w4.heap[w.heap.size]? = some (.cells cs 49 (0,0)):=(hT3.block _ hsz1 hout).trans hnew;have c17:w4.cell? ⟨w.heap.size,17,none⟩=some (.slice p17 l17 k17):=(by rw [cell_of_row _ _ 17 _ _ _ hh3,hcs];rfl))
   go_wp2_with (go_at_call 50;(with_reducible refine (numbers_sp lo n (k+1) _ _ (hT3.sl _ _ _ h17) hbl4).mono ?_);rintro e w5 ⟨rfl,hS4⟩;clear c17;have hT4:=hT3.trans hS4;have hh4:w5.heap[w.heap.size]? = some (.cells cs 49 (0,0)):=(hT4.block _ hsz1 hout).trans hnew;have c0:w5.cell? ⟨w.heap.size,0,none⟩=some (.int .i64 z0):=(by rw [cell_of_row _ _ 0 _ _ _ hh4,hcs];rfl);have c1:w5.cell? ⟨w.heap.size,1,none⟩=some (.int .i64 z1):=(by rw [cell_of_row _ _ 1 _ _ _ hh4,hcs];rfl);have c2:w5.cell? ⟨w.heap.size,2,none⟩=some (.int .i64 z2):=(by rw [cell_of_row _ _ 2 _ _ _ hh4,hcs];rfl);have c3:w5.cell? ⟨w.heap.size,3,none⟩=some (.int .i64 z3):=(by rw [cell_of_row _ _ 3 _ _ _ hh4,hcs];rfl);have c4:w5.cell? ⟨w.heap.size,4,none⟩=some (.int .i64 z4):=(by rw [cell_of_row _ _ 4 _ _ _ hh4,hcs];rfl);have c5:w5.cell? ⟨w.heap.size,5,none⟩=some (.int .i64 z5):=(by rw [cell_of_row _ _ 5 _ _ _ hh4,hcs];rfl);have c6:w5.cell? ⟨w.heap.size,6,none⟩=some (.slice p6 l6 k6):=(by rw [cell_of_row _ _ 6 _ _ _ hh4,hcs];rfl);have c7:w5.cell? ⟨w.heap.size,7,none⟩=some (.int .i64 z7):=(by rw [cell_of_row _ _ 7 _ _ _ hh4,hcs];rfl);have c8:w5.cell? ⟨w.heap.size,8,none⟩=some (.int .i64 z8):=(by rw [cell_of_row _ _ 8 _ _ _ hh4,hcs];rfl);have c9:w5.cell? ⟨w.heap.size,9,none⟩=some (.slice p9 l9 k9):=(by rw [cell_of_row _ _ 9 _ _ _ hh4,hcs];rfl);have c10:w5.cell? ⟨w.heap.size,10,none⟩=some (.slice p10 l10 k10):=(by rw [cell_of_row _ _ 10 _ _ _ hh4,hcs];rfl);have c11:w5.cell? ⟨w.heap.size,11,none⟩=some (.int .i64 z11):=(by rw [cell_of_row _ _ 11 _ _ _ hh4,hcs];rfl);have c12:w5.cell? ⟨w.heap.size,12,none⟩=some (.int .i64 z12):=(by rw [cell_of_row _ _ 12 _ _ _ hh4,hcs];rfl);have c13:w5.cell? ⟨w.heap.size,13,none⟩=some (.slice p13 l13 k13):=(by rw [cell_of_row _ _ 13 _ _ _ hh4,hcs];rfl);have c14:w5.cell? ⟨w.heap.size,14,none⟩=some (.slice p14 l14 k14):=(by rw [cell_of_row _ _ 14 _ _ _ hh4,hcs];rfl);have c15:w5.cell? ⟨w.heap.size,15,none⟩=some (.int .i64 z15):=(by rw [cell_of_row _ _ 15 _ _ _ hh4,hcs];rfl);have c16:w5.cell? ⟨w.heap.size,16,none⟩=some (.slice p16 l16 k16):=(by rw [cell_of_row _ _ 16 _ _ _ hh4,hcs];rfl);have c17:w5.cell? ⟨w.heap.size,17,none⟩=some (.slice p17 l17 k17):=(by rw [cell_of_row _ _ 17 _ _ _ hh4,hcs];rfl);have f0:w5.frozen? ⟨w.heap.size,0,none⟩=false:=(by unfold World.frozen?;rw [hh4];rfl);have f1:w5.frozen? ⟨w.heap.size,1,none⟩=false:=(by unfold World.frozen?;rw [hh4];rfl);have f2:w5.frozen? ⟨w.heap.size,2,none⟩=false:=(by unfold World.frozen?;rw [hh4];rfl);have f3:w5.frozen? ⟨w.heap.size,3,none⟩=false:=(by unfold World.frozen?;rw [hh4];rfl);have f4:w5.frozen? ⟨w.heap.size,4,none⟩=false:=(by unfold World.frozen?;rw [hh4];rfl);have f5:w5.frozen? ⟨w.heap.size,5,none⟩=false:=(by unfold World.frozen?;rw [hh4];rfl);have f6:w5.frozen? ⟨w.heap.size,6,none⟩=false:=(by unfold World.frozen?;rw [hh4];rfl);have f7:w5.frozen? ⟨w.heap.size,7,none⟩=false:=(by unfold World.frozen?;rw [hh4];rfl);have f8:w5.frozen? ⟨w.heap.size,8,none⟩=false:=(by unfold World.frozen?;rw [hh4];rfl);have f9:w5.frozen? ⟨w.heap.size,9,none⟩=false:=(by unfold World.frozen?;rw [hh4];rfl);have f10:w5.frozen? ⟨w.heap.size,10,none⟩=false:=(by unfold World.frozen?;rw [hh4];rfl);have f11:w5.frozen? ⟨w.heap.size,11,none⟩=false:=(by unfold World.frozen?;rw [hh4];rfl);have f12:w5.frozen? ⟨w.heap.size,12,none⟩=false:=(by unfold World.frozen?;rw [hh4];rfl);have f13:w5.frozen? ⟨w.heap.size,13,none⟩=false:=(by unfold World.frozen?;rw [hh4];rfl);have f14:w5.frozen? ⟨w.heap.size,14,none⟩=false:=(by unfold World.frozen?;rw [hh4];rfl);have f15:w5.frozen? ⟨w.heap.size,15,none⟩=false:=(by unfold World.frozen?;rw [hh4];rfl);have f16:w5.frozen? ⟨w.heap.size,16,none⟩=false:=(by unfold World.frozen?;rw [hh4];rfl);have f17:w5.frozen? ⟨w.heap.size,17,none⟩=false:=(by unfold World.frozen?;rw [hh4];rfl))
   have hg:Spoil lo n w (w5.setCells w.heap.size 0 newM):=Spoil.newsets hbl (Nat.le_refl _) newM 0 w5 (hA.trans hT4)
   have hcz:cs.size=18:=by rw [hcs];rfl
   obtain ⟨c',g1,g2⟩:=setCells_at newM 0 w5 cs hh4 (by rw [hcz];decide)
   have g3:c'.toList=newM:=by
    have hcl:cs.toList.length=18:=by rw [Array.length_toList,hcz]
    rw [g2,List.drop_of_length_le (by rw [hcl];decide)]
    simp
   exact ⟨⟨1,by go_num,.inr ⟨rfl,hg,c',g1,g3⟩⟩,by simp [intOf]⟩
  ·have hblr:∀ b,lo≤b→b<lo+n→b<wr.heap.size:=fun b h1 h2=>Nat.lt_of_lt_of_le (hbl b h1 h2) hS.size
   obtain ⟨i0,hi,hz0,hz1,hz2⟩:=info_parts info18
   go_wp2_with (at_builtin;refine wpList_append_grows _ rfl (.tmp 38) (.tmp 40) 71 rfl 49 i0 (.agg #[.int .i64 0,.int .i64 0,.int .i64 0,.int .i64 0,.int .i64 0,.int .i64 0,.slice none 0 0,.int .i64 0,.int .i64 0,.slice none 0 0,.slice none 0 0,.int .i64 0,.int .i64 0,.slice none 0 0,.slice none 0 0,.int .i64 0,.slice none 0 0,.slice none 0 0]) 18 256 Tryz.underlying71 hi hz0 hz1 hz2 rfl (by decide) (some ⟨w.heap.size,0,none⟩) 1 1 newM rfl (fun h=>by cases h) rfl ?holds ⟨wr.heap.size,0,none⟩ 1 1 [.int .i64 0,.int .i64 0,.int .i64 0,.int .i64 0,.int .i64 0,.int .i64 0,.slice none 0 0,.int .i64 0,.int .i64 0,.slice none 0 0,.slice none 0 0,.int .i64 0,.int .i64 0,.slice none 0 0,.slice none 0 0,.int .i64 0,.slice none 0 0,.slice none 0 0] rfl rfl ?c1 ?c2 (by decide) (by decide) (by decide) ?go)
   case holds =>
    intro b hb j u hu
    cases hb
    rw [add_lit _ rfl,Nat.zero_add]
    refine (Keeps.alloc wr _).cell ?_
    rw [cell_of_row wr _ _ _ _ _ hcur]
    rw [← hcl] at hu
    simpa using hu
   case c1=>intro j u hj;rw [alloc_row];simpa using hj
   case c2=>intro u hu;simp at hu;rcases hu with rfl|rfl|rfl|rfl|rfl|rfl|rfl|rfl|rfl|rfl|rfl|rfl|rfl|rfl|rfl|rfl|rfl|rfl<;>rfl
   case go =>
    intro v' w' _ hgr
    have hkp:Keeps (wr.alloc (.cells #[.int .i64 0,.int .i64 0,.int .i64 0,.int .i64 0,.int .i64 0,.int .i64 0,.slice none 0 0,.int .i64 0,.int .i64 0,.slice none 0 0,.slice none 0 0,.int .i64 0,.int .i64 0,.slice none 0 0,.slice none 0 0,.int .i64 0,.slice none 0 0,.slice none 0 0] 49)) w':=⟨hgr.os,hgr.tape,hgr.output,hgr.size,fun b hb=>hgr.block b hb (fun h=>by cases h)⟩
    have hS2:=Spoil.keeps hblr (Keeps.alloc wr (.cells #[.int .i64 0,.int .i64 0,.int .i64 0,.int .i64 0,.int .i64 0,.int .i64 0,.slice none 0 0,.int .i64 0,.int .i64 0,.slice none 0 0,.slice none 0 0,.int .i64 0,.int .i64 0,.slice none 0 0,.slice none 0 0,.int .i64 0,.slice none 0 0,.slice none 0 0] 49))
    go_wp2
    go_end0
    exact ⟨rfl,(hS.trans hS2).trans (Spoil.keeps (fun b h1 h2=>Nat.lt_of_lt_of_le (hblr b h1 h2) hS2.size) hkp)⟩
end Go.Proofs.YtolkmjfkkkiboaaGreat
namespace Go.Proofs.YtolkmjfkkkiboaaGreat
open Go.Ab Go.RowKit Go.MapKept
attribute [local irreducible] ACalls AW ADraw Into fltB fnear
set_option maxRecDepth 100000
def Msg.bavo (m:Msg):AV := .agg [.d (.int .i64 m.ba),.d (.int .i64 m.bn),.d (.slo 4 (txsD m.txs))]
theorem copyNumbersO_ok (xs:List Int) (hm:tiny xs):ACalls Tryz.prog 26 [.d (.slo 1 (nums xs))] [] (fun av L=>av = .d (.sl 1 (nums xs))∧L=[]):=by
 have hx:=nums_length xs
 unfold tiny at hm
 (refine acalls_go ttOk zOk foOk Tryz.func26 rfl Tryz.ntmps26 rfl false rfl ?_);(conv=>whnf)
 refine loop_go ttOk zOk foOk (σ:=Nat) (fun k=>([(0,.d (.slo 1 (nums xs))),(3,.arr 0),(4,.d (.int .i64 k))],[.row 3 1 (nums (xs.take k)) false])) (fun k=>k≤xs.length) (fun k=>xs.length - k) [0,3,4] ?_ ?_
 ·conv=>whnf
  exact ⟨0,rfl,rfl,by omega⟩
 ·intro k hk
  conv=>whnf
  rw [hx]
  refine rdz ?_;repeat' ((with_reducible apply tw)<;>intro _)
  ·rename_i h
   refine Exists.elim (⟨_,List.getElem?_eq_getElem (by omega)⟩:∃ a,xs[k]? = some a) fun a ha => ?_
   have hkn:=nums_length (xs.take k)
   refine ⟨by omega,[.int .i64 a],nums_at ha,?_⟩
   conv=>whnf
   refine rdz ?_;repeat' ((with_reducible apply tw)<;>intro _)
   refine ⟨by simp [hkn];omega,?_⟩
   conv=>whnf
   refine rdz ?_;repeat' ((with_reducible apply tw)<;>intro _)
   refine ⟨k+1,rfl,?_,by omega,by omega⟩
   rw [List.take_add_one,ha,← nums_apps]
   rfl
  ·rename_i h
   rw [List.take_of_length_le (by omega)]
   exact ⟨rfl,rfl⟩
theorem copyHeaderO_ok (c:Cert) (h:c.tiny):ACalls Tryz.prog 25 [c.havo] [] (fun av L=>av=c.hav∧L=[]):=by
 (refine acalls_go ttOk zOk foOk Tryz.func25 rfl Tryz.ntmps25 rfl false rfl ?_);(conv=>whnf)
 refine (copyNumbersO_ok c.bats h.bats).mono ?_
 rintro _ _ ⟨rfl,rfl⟩
 conv=>whnf
 refine (copyNumbersO_ok c.pars h.pars).mono ?_
 rintro _ _ ⟨rfl,rfl⟩
 conv=>whnf
 exact ⟨rfl,rfl⟩
theorem copyCertO_ok (c:Cert) (h:c.tiny):ACalls Tryz.prog 66 [c.avo] [] (fun av L=>av=c.av∧L=[]):=by
 (refine acalls_go ttOk zOk foOk Tryz.func66 rfl Tryz.ntmps66 rfl false rfl ?_);(conv=>whnf)
 refine (copyHeaderO_ok c h).mono ?_
 rintro _ _ ⟨rfl,rfl⟩
 conv=>whnf
 refine (copyNumbersO_ok c.sigs h.sigs).mono ?_
 rintro _ _ ⟨rfl,rfl⟩
 conv=>whnf
 exact ⟨rfl,rfl⟩
theorem copyTxsO_ok (l:List Tx) (hl:l.length≤1099511627776):ACalls Tryz.prog 163 [.d (.slo 4 (txsD l))] [] (fun av L=>av = .d (.sl 4 (txsD l))∧L=[]):=by
 have hx:=txsD_len l
 (refine acalls_go ttOk zOk foOk Tryz.func163 rfl Tryz.ntmps163 rfl false rfl ?_);(conv=>whnf)
 refine loop_go ttOk zOk foOk (σ:=Nat) (fun j=>([(0,.d (.slo 4 (txsD l))),(3,.arr 0),(4,.d (.int .i64 j))],[.row 180 4 (txsD (l.take j)) false])) (fun j=>j≤l.length) (fun j=>l.length - j) [0,3,4] ?_ ?_
 ·conv=>whnf
  exact ⟨0,rfl,rfl,Nat.zero_le _⟩
 ·intro j hj
  have hlt:=List.length_take_le' j l
  have hxl:=txsD_len (l.take j)
  conv=>whnf
  refine rdz ?_;repeat' ((with_reducible apply tw)<;>intro _)
  ·rename_i h
   replace h:(j:Int)<((txsD l).length:Int):=h
   refine Exists.elim (⟨_,List.getElem?_eq_getElem (by omega)⟩:∃ c,l[j]? = some c) fun a ha => ?_
   refine ⟨by omega,a.cs,txsD_at ha,?_⟩
   conv=>whnf
   refine rdz ?_;repeat' ((with_reducible apply tw)<;>intro _)
   refine ⟨by show ((txsD (l.take j)).length+1) * 48≤_;omega,?_⟩
   conv=>whnf
   refine rdz ?_;repeat' ((with_reducible apply tw)<;>intro _)
   refine ⟨j+1,rfl,?_,by omega,by omega⟩
   rw [List.take_add_one,ha,show txsD (l.take j++(some a).toList)=txsD (l.take j)++[a.cs] by simp [txsD]]
   rfl
  ·rename_i h
   replace h:¬(j:Int)<((txsD l).length:Int):=h
   rw [List.take_of_length_le (by omega)]
   exact ⟨rfl,rfl⟩
theorem copyBatchO_ok (m:Msg) (hl:m.txs.length≤1099511627776):ACalls Tryz.prog 113 [m.bavo] [] (fun av L=>av=m.bav∧L=[]):=by
 (refine acalls_go ttOk zOk foOk Tryz.func113 rfl Tryz.ntmps113 rfl false rfl ?_);(conv=>whnf)
 refine rdz ?_;repeat' ((with_reducible apply tw)<;>intro _)
 (refine (copyTxsO_ok m.txs hl).mono ?_;rintro _ _ ⟨rfl,rfl⟩;(conv=>whnf))
 refine rdz ?_;repeat' ((with_reducible apply tw)<;>intro _)
 exact ⟨rfl,rfl⟩
theorem copyMsgO_ok (m:Msg) (h:m.small):ACalls Tryz.prog 57 [m.avo] [] (fun av L=>av=m.av∧L=[]):=by
 (refine acalls_go ttOk zOk foOk Tryz.func57 rfl Tryz.ntmps57 rfl false rfl ?_);(conv=>whnf)
 refine rdz ?_;repeat' ((with_reducible apply tw)<;>intro _)
 (refine (copyBatchO_ok m (by have:=h.txs;omega)).mono ?_;rintro _ _ ⟨rfl,rfl⟩;(conv=>whnf))
 refine rdz ?_;repeat' ((with_reducible apply tw)<;>intro _)
 (refine (copyHeaderO_ok m.head h.htiny).mono ?_;rintro _ _ ⟨rfl,rfl⟩;(conv=>whnf))
 refine rdz ?_;repeat' ((with_reducible apply tw)<;>intro _)
 (refine (copyCertO_ok m.cert h.ctiny).mono ?_;rintro _ _ ⟨rfl,rfl⟩;(conv=>whnf))
 refine rdz ?_;repeat' ((with_reducible apply tw)<;>intro _)
 (refine (copyNumbersO_ok m.digs (by have:=h.digs;unfold tiny;omega)).mono ?_;rintro _ _ ⟨rfl,rfl⟩;(conv=>whnf))
 refine rdz ?_;repeat' ((with_reducible apply tw)<;>intro _)
 exact ⟨rfl,rfl⟩
def Msg.acs (m:Msg) (i:Nat):List AV:=[.d (.int .i64 m.kind),.d (.int .i64 m.src),.d (.int .i64 m.dst),.d (.int .i64 m.digest),.d (.int .i64 m.ba),.d (.int .i64 m.bn),.isl i (.sl 4 (txsD m.txs)),.d (.int .i64 m.head.author),.d (.int .i64 m.head.round),.isl i (.sl 1 (nums m.head.bats)),.isl i (.sl 1 (nums m.head.pars)),.d (.int .i64 m.cert.author),.d (.int .i64 m.cert.round),.isl i (.sl 1 (nums m.cert.bats)),.isl i (.sl 1 (nums m.cert.pars)),.d (.int .i64 m.cert.digest),.isl i (.sl 1 (nums m.cert.sigs)),.isl i (.sl 1 (nums m.digs))]
def Msg.ai (m:Msg) (i:Nat):AV := .agg (m.acs i)
theorem ne_txs (l:List Tx):NoE (txsD l):=NoE_map (f:=Tx.cs) (fun _=>⟨trivial,trivial,trivial,trivial,trivial⟩) l
theorem dnE_txs (l:List Tx):DnE (txsD l) (txsD l):=DnE.map (fun _ => .cons (dn_int _) (.cons (dn_int _) (.cons (.flat (flat_str _)) (.cons (.flat (flat_str _)) .nil)))) l
theorem isl2_msg (i:Nat) (m:Msg):Isl2 i m.av (m.ai i) := .inr ⟨_,_,rfl,rfl,.cons (isl_int _) (.cons (isl_int _) (.cons (isl_int _) (.cons (isl_int _) (.cons (isl_int _) (.cons (isl_int _) (.cons (.sl (ne_txs _)) (.cons (isl_int _) (.cons (isl_int _) (.cons (.sl (ne_nums _)) (.cons (.sl (ne_nums _)) (.cons (isl_int _) (.cons (isl_int _) (.cons (.sl (ne_nums _)) (.cons (.sl (ne_nums _)) (.cons (isl_int _) (.cons (.sl (ne_nums _)) (.cons (.sl (ne_nums _)) .nil)))))))))))))))))⟩
theorem lendO_msg (L:List AB) (m:Msg):lendO2 L m.av m.avo := .inr ⟨_,_,rfl,rfl,.cons (lo_int _) (.cons (lo_int _) (.cons (lo_int _) (.cons (lo_int _) (.cons (lo_int _) (.cons (lo_int _) (.cons (lo_dn (.sl (dnE_txs _))) (.cons (lo_int _) (.cons (lo_int _) (.cons (lo_dn (dn_nums _)) (.cons (lo_dn (dn_nums _)) (.cons (lo_int _) (.cons (lo_int _) (.cons (lo_dn (dn_nums _)) (.cons (lo_dn (dn_nums _)) (.cons (lo_int _) (.cons (lo_dn (dn_nums _)) (.cons (lo_dn (dn_nums _)) .nil)))))))))))))))))⟩
theorem lo_isl {L:List AB} {i lo n:Nat} {x x':DV} (h:L[i]? = some (.isle lo n true)) (k:DnD x x'):lendO1 L (.isl i x) (.d x') := .inr ⟨i,x,x',lo,n,rfl,h,rfl,k⟩
theorem lendO_mi {L:List AB} {i lo n:Nat} (h:L[i]? = some (.isle lo n true)) (m:Msg):lendO2 L (m.ai i) m.avo := .inr ⟨_,_,rfl,rfl,.cons (lo_int _) (.cons (lo_int _) (.cons (lo_int _) (.cons (lo_int _) (.cons (lo_int _) (.cons (lo_int _) (.cons (lo_isl h (.sl (dnE_txs _))) (.cons (lo_int _) (.cons (lo_int _) (.cons (lo_isl h (dn_nums _)) (.cons (lo_isl h (dn_nums _)) (.cons (lo_int _) (.cons (lo_int _) (.cons (lo_isl h (dn_nums _)) (.cons (lo_isl h (dn_nums _)) (.cons (lo_int _) (.cons (lo_isl h (dn_nums _)) (.cons (lo_isl h (dn_nums _)) .nil)))))))))))))))))⟩
theorem lend_mi {L:List AB} {i lo n:Nat} (h:L[i]? = some (.isle lo n true)) (m:Msg):lend2 L (m.ai i) m.av := .inr ⟨_,_,rfl,rfl,lendS_c (l1_int _) (lendS_c (l1_int _) (lendS_c (l1_int _) (lendS_c (l1_int _) (lendS_c (l1_int _) (lendS_c (l1_int _) (lendS_c (l1_isl h _) (lendS_c (l1_int _) (lendS_c (l1_int _) (lendS_c (l1_isl h _) (lendS_c (l1_isl h _) (lendS_c (l1_int _) (lendS_c (l1_int _) (lendS_c (l1_isl h _) (lendS_c (l1_isl h _) (lendS_c (l1_int _) (lendS_c (l1_isl h _) (lendS_c (l1_isl h _) lendS_n)))))))))))))))))⟩
theorem lend_mv {L:List AB} (m:Msg):lend2 L m.av m.av := .inr ⟨_,_,rfl,rfl,lendS_c (l1_d _) (lendS_c (l1_d _) (lendS_c (l1_d _) (lendS_c (l1_d _) (lendS_c (l1_d _) (lendS_c (l1_d _) (lendS_c (l1_d _) (lendS_c (l1_d _) (lendS_c (l1_d _) (lendS_c (l1_d _) (lendS_c (l1_d _) (lendS_c (l1_d _) (lendS_c (l1_d _) (lendS_c (l1_d _) (lendS_c (l1_d _) (lendS_c (l1_d _) (lendS_c (l1_d _) (lendS_c (l1_d _) lendS_n)))))))))))))))))⟩
theorem copyMsgI_ok (m:Msg) (h:m.small):ACalls Tryz.prog 57 [m.av] [] (fun av L=>av=m.ai 0∧∃ lo n,L=[.isle lo n true]) :=
 acalls_isle (X:=fun av=>av=m.av) (post:=fun av=>av=m.ai 0) (.cons (lendO_msg [] m) .nil) (copyMsgO_ok m h) (by
  rintro _ rfl
  exact ⟨_,.inl (isl2_msg _ _),rfl⟩)
def outJ (q:Prim) (o:List Msg) (e:Int):AV := .tup [q.ai 1,.isl 1 (.sl 18 (msgsD o)),.d (.int .i64 e)]
theorem takeI_of {p:Prim} {m:Msg} {held:List Int} {X:AV→Prop} (h:ACalls Tryz.prog 58 [p.avo,m.avo,.d (.slo 1 (nums held))] [] (fun av L=>X av∧L=[])) {C:Prop} {q:Prim} {o:List Msg}
  (hX:∀ av,X av→(C∧av=doneAV q o)∨(¬C∧av=errAV 1)) (ho:C→∀ x∈o,x.nice) (lo n:Nat) :
  ACalls Tryz.prog 58 [p.av,m.ai 0,.d (.sl 1 (nums held))] [.isle lo n true] (fun av L=>((C∧av=outJ q o 0)∨(¬C∧av=outJ zP [] 1))∧∃ lo2 n2,L=[.isle lo n true,.isle lo2 n2 true]):=by
 refine acalls_wk (acalls_isle (X:=X) (post:=fun av=>(C∧av=outJ q o 0)∨(¬C∧av = .tup [.agg zPrim,.isl 1 (.sl 18 []),.d (.int .i64 1)])) (.cons (lendO_prim _ p) (.cons (lendO_mi rfl m) (.cons (.inl (lo_dn (dn_nums held))) .nil))) h ?_) ?_
 ·intro av hx
  rcases hX av hx with ⟨k,rfl⟩|⟨k,rfl⟩
  ·exact ⟨_,.inr ⟨_,_,rfl,rfl,.cons (isl2_prim _ _) (.cons (.inl (.sl (ne_msgs (ho k)))) (.cons (.inl (isl_int _)) .nil))⟩,.inl ⟨k,rfl⟩⟩
  ·exact ⟨_,.inr ⟨_,_,rfl,rfl,.cons (isl2_z _) (.cons (.inl (.sl trivial)) (.cons (.inl (isl_int _)) .nil))⟩,.inr ⟨k,rfl⟩⟩
 ·rintro _ _ ⟨⟨k,rfl⟩|⟨k,rfl⟩,lo2,n2,rfl⟩
  ·exact ⟨_,.inl (.inl (wk_r _)),.inl ⟨k,rfl⟩,lo2,n2,rfl⟩
  ·refine ⟨_,.inr ⟨_,_,rfl,rfl,.cons (.inr ⟨_,_,rfl,rfl,?_⟩) (.cons (.inl (wk_r _)) (.cons (.inl (wk_r _)) .nil))⟩,.inr ⟨k,rfl⟩,lo2,n2,rfl⟩
   have hw:∀ {k:Nat},0<k→Wk1 [AB.isle lo n true,AB.isle lo2 n2 true] (.d .nils) (.isl 1 (.sl k [])):=fun {k} hk => .inr ⟨1,lo2,n2,k,rfl,⟨_,rfl,rfl⟩,hk,rfl⟩
   exact .cons (wk_r _) (.cons (wk_r _) (.cons (wk_r _) (.cons (wk_r _) (.cons (wk_r _) (.cons (wk_r _) (.cons (wk_r _) (.cons (hw (by decide)) (.cons (hw (by decide)) (.cons (wk_r _) (.cons (hw (by decide)) (.cons (hw (by decide)) (.cons (wk_r _) (.cons (wk_r _) (.cons (hw (by decide)) (.cons (hw (by decide)) .nil)))))))))))))))
theorem eqTx_ok:eqOkB Tryz.prog 180 [true,true,false,false]=true:=by kernel_rfl
theorem eqTxs_same (l:List Tx) (hl:few l):ACalls Tryz.prog 170 [.d (.sl 4 (txsD l)),.d (.sl 4 (txsD l))] [] (fun av L=>av = .d (.bool true)∧L=[]):=by
 have hcl:=txsD_len l
 unfold few at hl
 (refine acalls_go ttOk zOk foOk Tryz.func170 rfl Tryz.ntmps170 rfl false rfl ?_);(conv=>whnf)
 refine rdw ?_;repeat' ((with_reducible apply tw)<;>intro _)
 ·rename_i hx;exact absurd rfl hx
 ·refine loop_go ttOk zOk foOk (σ:=Nat) (fun k=>([(0,.d (.sl 4 (txsD l))),(1,.d (.sl 4 (txsD l))),(5,.d (.int .i64 k))],[])) (fun k=>k≤l.length) (fun k=>l.length - k) [0,1,5] ?_ ?_
  ·conv=>whnf
   exact ⟨0,rfl,rfl,by omega⟩
  ·intro k hk
   conv=>whnf
   rw [hcl]
   refine rdw ?_;repeat' ((with_reducible apply tw)<;>intro _)
   ·rename_i hkl
    refine Exists.elim (⟨_,List.getElem?_eq_getElem (by omega)⟩:∃ c,l[k]? = some c) fun c hc => ?_
    ((with_reducible refine draw_pl ttOk zOk foOk mixedOk pl170x6 ?_ ?_);(focus kernel_rfl);(conv=>whnf))
    repeat' (first|(first|((with_reducible first|apply rd_intro|apply gd_and);(focus ((conv=>whnf)<;>first|rfl|(intro K hK;(conv=>whnf);first|exact hK|exact z_wrap (by omega) hK)));conv=>whnf)|((with_reducible apply z_wrap);(focus omega);conv=>whnf)|((with_reducible first|apply mt_dec|apply mt_eq|apply mt_ne|apply mt_not|apply mt_any)<;>(intro _;conv=>whnf)))|((with_reducible apply rd_intro);(focus (intro K hK;(conv=>whnf);exact ⟨by omega,c.cs,txsD_at hc,hK⟩));(conv=>whnf))|((with_reducible apply rd_intro);(focus (intro K hK;(conv=>whnf);exact ⟨eqTx_ok,hK⟩));(conv=>whnf))|fail)
    ·rename_i hb
     exfalso
     revert hb
     simp
    ·exact ⟨k+1,rfl,rfl,by omega,by omega⟩
   ·exact ⟨rfl,rfl⟩
theorem eqBatch_same (a b:Int) (l:List Tx) (hl:few l):ACalls Tryz.prog 118 [.agg [.d (.int .i64 a),.d (.int .i64 b),.d (.sl 4 (txsD l))],.agg [.d (.int .i64 a),.d (.int .i64 b),.d (.sl 4 (txsD l))]] [] (fun av L=>av = .d (.bool true)∧L=[]):=by
 have h1:=eqTxs_same l hl
 (refine acalls_go ttOk zOk foOk Tryz.func118 rfl Tryz.ntmps118 rfl false rfl ?_);(conv=>whnf)
 refine rdw ?_;repeat' ((with_reducible apply tw)<;>intro _)
 ·(refine (h1).mono ?_;rintro _ _ ⟨rfl,rfl⟩;(conv=>whnf))
  exact ⟨rfl,rfl⟩
 all_goals (rename_i hx;exact absurd rfl hx)
theorem eqMsg_self (m:Msg) (hf:m.fine):ACalls Tryz.prog 59 [m.av,m.av] [] (fun av L=>av = .d (.bool true)∧L=[]):=by
 have h1:=eqBatch_same m.ba m.bn m.txs hf.txs
 have h2:=eqHeader_same m.head hf.head
 have h3:=eqCert_same m.cert hf.cert
 have h4:=eqNumbers_ok m.digs m.digs hf.digs
 rw [decide_eq_true rfl] at h4
 (refine acalls_go ttOk zOk foOk Tryz.func59 rfl Tryz.ntmps59 rfl false rfl ?_);(conv=>whnf)
 refine rdw ?_;repeat' ((with_reducible apply tw)<;>intro _)
 ·(refine (h1).mono ?_;rintro _ _ ⟨rfl,rfl⟩;(conv=>whnf))
  refine rdw ?_;repeat' ((with_reducible apply tw)<;>intro _)
  ·(refine (h2).mono ?_;rintro _ _ ⟨rfl,rfl⟩;(conv=>whnf))
   refine rdw ?_;repeat' ((with_reducible apply tw)<;>intro _)
   ·(refine (h3).mono ?_;rintro _ _ ⟨rfl,rfl⟩;(conv=>whnf))
    refine rdw ?_;repeat' ((with_reducible apply tw)<;>intro _)
    ·(refine (h4).mono ?_;rintro _ _ ⟨rfl,rfl⟩;(conv=>whnf))
     exact ⟨rfl,rfl⟩
 all_goals (rename_i hx;exact absurd rfl hx)
theorem eqCI_ok (m:Msg) (hf:m.fine) (lo n:Nat):ACalls Tryz.prog 59 [m.ai 0,m.av] [.isle lo n true] (fun av L=>av = .d (.bool true)∧L=[.isle lo n true]) :=
 acalls_lend (flat_bool _) ⟨_,_,rfl,lend_mi rfl m,_,_,rfl,lend_mv m,rfl⟩ (eqMsg_self m hf)
attribute [local irreducible] SL
theorem isl_SLL {c:Ctx} {E:Nat→Option Nat} {L:List AB} {i lo n:Nat} {ok:IsK} {w:World} {x:DV} {v:Value} {m:Nat} (hi:L[i]? = some (.isle lo n ok)) (hf:FitS 3 m x) (h:VR (rcOf c.M0 E L w) (.isl i x) v):SL lo n w 3 m v:=by
 simp only [VR] at h
 obtain ⟨⟨ab,hab,hr⟩,_⟩:=h
 rw [hi] at hab
 cases hab
 exact SL_of_is hf hr
theorem lit_sp (m:Msg) (h:m.small) {L:List AB} {i lo n:Nat} {ok:IsK} (hi:L[i]? = some (.isle lo n ok)) (c:Ctx) (E:Nat→Option Nat) (w:World) (cur:Array Value) (hbl:∀ b,lo≤b→b<lo+n→b<w.heap.size) (hv:VRs (rcOf c.M0 E L w) (m.acs i) cur.toList) :
  Calls Tryz.prog 60 #[.slice (some ⟨w.heap.size,0,none⟩) 1 1] (w.alloc (.cells cur 49)) fun e w'=>e = .returned (.tuple #[])∧Spoil lo n w w':=by
 simp only [Msg.acs,VRs] at hv
 obtain ⟨a0,_,e,-,h0,a1,_,rfl,-,h1,a2,_,rfl,-,h2,a3,_,rfl,-,h3,a4,_,rfl,-,h4,a5,_,rfl,-,h5,a6,_,rfl,-,h6,a7,_,rfl,-,h7,a8,_,rfl,-,h8,a9,_,rfl,-,h9,a10,_,rfl,-,h10,a11,_,rfl,-,h11,a12,_,rfl,-,h12,a13,_,rfl,-,h13,a14,_,rfl,-,h14,a15,_,rfl,-,h15,a16,_,rfl,-,h16,a17,_,rfl,-,h17,rfl⟩:=hv
 have hi64:∀ {z:Int} {a:Value},VR (rcOf c.M0 E L w) (.d (.int .i64 z)) a→a = .int .i64 z:=fun {z a} hz=>by simpa only [VR,VD] using hz
 have b0:=hi64 h0
 have b1:=hi64 h1
 have b2:=hi64 h2
 have b3:=hi64 h3
 have b4:=hi64 h4
 have b5:=hi64 h5
 have b7:=hi64 h7
 have b8:=hi64 h8
 have b11:=hi64 h11
 have b12:=hi64 h12
 have b15:=hi64 h15
 subst b0 b1 b2 b3 b4 b5 b7 b8 b11 b12 b15
 have hc:cur = #[.int .i64 m.kind,.int .i64 m.src,.int .i64 m.dst,.int .i64 m.digest,.int .i64 m.ba,.int .i64 m.bn,a6,.int .i64 m.head.author,.int .i64 m.head.round,a9,a10,.int .i64 m.cert.author,.int .i64 m.cert.round,a13,a14,.int .i64 m.cert.digest,a16,a17]:=by
  rw [← Array.toArray_toList (xs:=cur),e]
 rw [hc]
 have f1:∀ {l:List Int},l.length≤3000→FitS 3 1 (.sl 1 (nums l)):=fun {l} hl=>fsI l (by omega) 2
 exact messages_lit lo n 1 w _ _ _ _ _ _ _ _ _ _ _ _ _ _ _ _ _ _ (isl_SLL hi (fsT _ (by have:=h.txs;omega) 2) h6) (isl_SLL hi (f1 h.head.1) h9) (isl_SLL hi (f1 h.head.2) h10) (isl_SLL hi (f1 h.cert.1) h13) (isl_SLL hi (f1 h.cert.2.1) h14) (isl_SLL hi (f1 h.cert.2.2) h16) (isl_SLL hi (f1 h.digs) h17) hbl
end Go.Proofs.YtolkmjfkkkiboaaGreat
namespace Go.Proofs.YtolkmjfkkkiboaaGreat
open Go.Ab Go.RowKit Go.MapKept
attribute [local irreducible] ACalls AW ADraw Into fltB fnear
set_option maxRecDepth 100000
structure TakeF (p:Prim) (m:Msg) (held:List Int) (C:Prop) (q:Prim) (o:List Msg):Prop where
 page:May p→ACalls Tryz.prog 56 [p.av,m.av,.d (.sl 1 (nums held))] [] (fun av L=>(C∧goodT q o av L)∨(¬C∧badT p 1 av L))
 prog:∀ lo n,ACalls Tryz.prog 58 [p.av,m.ai 0,.d (.sl 1 (nums held))] [.isle lo n true] (fun av L=>((C∧av=outJ q o 0)∨(¬C∧av=outJ zP [] 1))∧∃ lo2 n2,L=[.isle lo n true,.isle lo2 n2 true])
 may:C→May p
 qok:C→q.ok∧q.fitS
 nice:C→∀ x∈o,x.nice
 len:C→o.length≤100000
set_option maxHeartbeats 8000000 in
open Classical in
theorem step4_ok (p:Prim) (hok:p.ok) (ht:p.tiny) (hf:p.fitS) (hdl:p.dag.certs.length≤1000) (a:Act) (h0:a.doo=4) (had:i64 a.d) (hal:a.l.length≤1000) (has:a.m.small)
  (hT:∀ m:Msg,m.small→m.kind=a.m.kind→∃ C q o,TakeF p m a.l C q o) :
  ACalls Tryz.prog 19 [p.av,a.av] [] (fun av L=>(∃ q:Prim,av = .tup [q.av,.d (.bool true)])∧L=[]):=by
 have h1:=copyPrim_ok p ht
 have h2:=rMay20_ok p hok
 have h3:=within_ok a.doo 10 (by decide) (by decide) (by rw [h0];decide)
 have hfd:few p.dag.certs∧∀ c∈p.dag.certs,fewL c:=⟨by have:=hf.dag.1;unfold few;omega,fun c hc=>fit_few (hf.dag.2 c hc)⟩
 have hfl:few p.late∧∀ c∈p.late,fewL c:=⟨by have:=hf.late.1;unfold few;omega,fun c hc=>fit_few (hf.late.2 c hc)⟩
 have hv:few p.votes:=by have:=hf.votes;unfold few;omega
 have ha:few p.acks:=by have:=hf.acks;unfold few;omega
 have hmm:few p.mine.bats∧few p.mine.pars:=⟨by have:=hf.bats;unfold few;omega,by have:=hf.pars;unfold few;omega⟩
 have h6:=eqPrim_same p hok hfd hfl hv ha hmm
 have hfit:=fitK_ok p hok hdl a has had
 have hcn:=copyNumbers_ok a.l (by unfold tiny;omega)
 rw [show a.doo % 18446744073709551616 % 10=4 by rw [h0];decide] at h3
 refine acalls_cut ttOk zOk foOk 8 Tryz.func19 rfl Tryz.ntmps19 rfl false rfl ?_
 conv=>whnf
 refine h1.mono ?_
 rintro _ _ ⟨rfl,rfl⟩
 conv=>whnf
 refine rdw ?_;repeat' ((with_reducible apply tw)<;>intro _)
 refine h2.mono ?_
 rintro _ _ ⟨rfl,rfl⟩
 obtain ⟨b,hb⟩:∃ b,decide (May p)=b:=⟨_,rfl⟩
 rw [hb]
 conv=>whnf
 refine rdw ?_;repeat' ((with_reducible apply tw)<;>intro _)
 (refine (h3).mono ?_;rintro _ _ ⟨rfl,rfl⟩;(conv=>whnf))
 refine rdw ?_;repeat' ((with_reducible apply tw)<;>intro _)
 refine aw_seq (aw_seq (AW_go ttOk zOk foOk ?_))
 conv=>whnf
 refine ⟨rfl,?_⟩
 refine aw_block (aw_seqr (AW_go ttOk zOk foOk ?_))
 conv=>whnf
 refine rdw ?_;repeat' ((with_reducible apply tw)<;>intro _)
 refine aw_cond ?_
 conv=>whnf
 refine aw_seqr (AW_go ttOk zOk foOk ?_)
 conv=>whnf
 refine aw_cond ?_
 conv=>whnf
 refine aw_seqr (AW_go ttOk zOk foOk ?_)
 conv=>whnf
 refine aw_cond ?_
 conv=>whnf
 refine aw_seqr (AW_go ttOk zOk foOk ?_)
 conv=>whnf
 refine rdw ?_;repeat' ((with_reducible apply tw)<;>intro _)
 refine hfit.mono ?_
 rintro _ _ ⟨⟨m,rfl,hms,hmk⟩,rfl⟩
 obtain ⟨C,q,o,hF⟩:=hT m hms hmk
 obtain ⟨hcm⟩:Nonempty (ACalls Tryz.prog 57 [m.av] [] (fun av L=>av=m.ai 0∧∃ lo n,L=[.isle lo n true])):=⟨copyMsgI_ok m hms⟩
 conv=>whnf
 refine rdw ?_;repeat' ((with_reducible apply tw)<;>intro _)
 cases b with
 | false =>
   have hC:¬C:=fun h=>of_decide_eq_false hb (hF.may h)
   refine aw_seqr (AW_go ttOk zOk foOk ?_)
   conv=>whnf
   refine aw_seqr (AW_go ttOk zOk foOk ?_)
   conv=>whnf
   refine rdw ?_;repeat' ((with_reducible apply tw)<;>intro _)
   refine hcm.mono ?_
   rintro _ _ ⟨rfl,lo,n,rfl⟩
   conv=>whnf
   refine rdw ?_;repeat' ((with_reducible apply tw)<;>intro _)
   refine aw_seqr (AW_go ttOk zOk foOk ?_)
   conv=>whnf
   ((with_reducible refine draw_pl ttOk zOk foOk mixedOk pl19x13 ?_ ?_);(focus kernel_rfl);(conv=>whnf))
   refine rdw ?_;repeat' ((with_reducible apply tw)<;>intro _)
   (refine (hcn).mono ?_;rintro _ _ ⟨rfl,rfl⟩;(conv=>whnf))
   refine rdw ?_;repeat' ((with_reducible apply tw)<;>intro _)
   refine (hF.prog lo n).mono ?_
   rintro _ _ ⟨⟨hyes,_⟩|⟨_,rfl⟩,lo2,n2,rfl⟩
   ·exact absurd hyes hC
   conv=>whnf
   refine rdw ?_;repeat' ((with_reducible apply tw)<;>intro _)
   refine aw_seqr (AW_go ttOk zOk foOk ?_)
   conv=>whnf
   refine rdw ?_;repeat' ((with_reducible apply tw)<;>intro _)
   refine (eqCI_ok m hms.fine lo n).mono ?_
   rintro _ _ ⟨rfl,rfl⟩
   conv=>whnf
   first
    | refine aw_lit ttOk zOk foOk (i:=12) (lo:=lo) (m:=n) (ok:=true) (mav:=m.acs 12) rfl rfl rfl rfl rfl rfl (by decide) rfl (by decide) rfl (by decide) (by (conv=>whnf);exact ⟨rfl,rfl⟩) rfl rfl rfl rfl rfl rfl rfl (by decide) (by decide) rfl (by (conv=>whnf);rfl) (fun c E w cur hbl hv=>lit_sp m hms rfl c E w cur hbl hv) ?_
    | refine aw_lit ttOk zOk foOk (i:=13) (lo:=lo) (m:=n) (ok:=true) (mav:=m.acs 13) rfl rfl rfl rfl rfl rfl (by decide) rfl (by decide) rfl (by decide) (by (conv=>whnf);exact ⟨rfl,rfl⟩) rfl rfl rfl rfl rfl rfl rfl (by decide) (by decide) rfl (by (conv=>whnf);rfl) (fun c E w cur hbl hv=>lit_sp m hms rfl c E w cur hbl hv) ?_
    | refine aw_lit ttOk zOk foOk (i:=14) (lo:=lo) (m:=n) (ok:=true) (mav:=m.acs 14) rfl rfl rfl rfl rfl rfl (by decide) rfl (by decide) rfl (by decide) (by (conv=>whnf);exact ⟨rfl,rfl⟩) rfl rfl rfl rfl rfl rfl rfl (by decide) (by decide) rfl (by (conv=>whnf);rfl) (fun c E w cur hbl hv=>lit_sp m hms rfl c E w cur hbl hv) ?_
    | refine aw_lit ttOk zOk foOk (i:=15) (lo:=lo) (m:=n) (ok:=true) (mav:=m.acs 15) rfl rfl rfl rfl rfl rfl (by decide) rfl (by decide) rfl (by decide) (by (conv=>whnf);exact ⟨rfl,rfl⟩) rfl rfl rfl rfl rfl rfl rfl (by decide) (by decide) rfl (by (conv=>whnf);rfl) (fun c E w cur hbl hv=>lit_sp m hms rfl c E w cur hbl hv) ?_
    | refine aw_lit ttOk zOk foOk (i:=16) (lo:=lo) (m:=n) (ok:=true) (mav:=m.acs 16) rfl rfl rfl rfl rfl rfl (by decide) rfl (by decide) rfl (by decide) (by (conv=>whnf);exact ⟨rfl,rfl⟩) rfl rfl rfl rfl rfl rfl rfl (by decide) (by decide) rfl (by (conv=>whnf);rfl) (fun c E w cur hbl hv=>lit_sp m hms rfl c E w cur hbl hv) ?_
    | refine aw_lit ttOk zOk foOk (i:=17) (lo:=lo) (m:=n) (ok:=true) (mav:=m.acs 17) rfl rfl rfl rfl rfl rfl (by decide) rfl (by decide) rfl (by decide) (by (conv=>whnf);exact ⟨rfl,rfl⟩) rfl rfl rfl rfl rfl rfl rfl (by decide) (by decide) rfl (by (conv=>whnf);rfl) (fun c E w cur hbl hv=>lit_sp m hms rfl c E w cur hbl hv) ?_
    | refine aw_lit ttOk zOk foOk (i:=18) (lo:=lo) (m:=n) (ok:=true) (mav:=m.acs 18) rfl rfl rfl rfl rfl rfl (by decide) rfl (by decide) rfl (by decide) (by (conv=>whnf);exact ⟨rfl,rfl⟩) rfl rfl rfl rfl rfl rfl rfl (by decide) (by decide) rfl (by (conv=>whnf);rfl) (fun c E w cur hbl hv=>lit_sp m hms rfl c E w cur hbl hv) ?_
    | refine aw_lit ttOk zOk foOk (i:=19) (lo:=lo) (m:=n) (ok:=true) (mav:=m.acs 19) rfl rfl rfl rfl rfl rfl (by decide) rfl (by decide) rfl (by decide) (by (conv=>whnf);exact ⟨rfl,rfl⟩) rfl rfl rfl rfl rfl rfl rfl (by decide) (by decide) rfl (by (conv=>whnf);rfl) (fun c E w cur hbl hv=>lit_sp m hms rfl c E w cur hbl hv) ?_
    | refine aw_lit ttOk zOk foOk (i:=20) (lo:=lo) (m:=n) (ok:=true) (mav:=m.acs 20) rfl rfl rfl rfl rfl rfl (by decide) rfl (by decide) rfl (by decide) (by (conv=>whnf);exact ⟨rfl,rfl⟩) rfl rfl rfl rfl rfl rfl rfl (by decide) (by decide) rfl (by (conv=>whnf);rfl) (fun c E w cur hbl hv=>lit_sp m hms rfl c E w cur hbl hv) ?_
    | refine aw_lit ttOk zOk foOk (i:=21) (lo:=lo) (m:=n) (ok:=true) (mav:=m.acs 21) rfl rfl rfl rfl rfl rfl (by decide) rfl (by decide) rfl (by decide) (by (conv=>whnf);exact ⟨rfl,rfl⟩) rfl rfl rfl rfl rfl rfl rfl (by decide) (by decide) rfl (by (conv=>whnf);rfl) (fun c E w cur hbl hv=>lit_sp m hms rfl c E w cur hbl hv) ?_
    | refine aw_lit ttOk zOk foOk (i:=22) (lo:=lo) (m:=n) (ok:=true) (mav:=m.acs 22) rfl rfl rfl rfl rfl rfl (by decide) rfl (by decide) rfl (by decide) (by (conv=>whnf);exact ⟨rfl,rfl⟩) rfl rfl rfl rfl rfl rfl rfl (by decide) (by decide) rfl (by (conv=>whnf);rfl) (fun c E w cur hbl hv=>lit_sp m hms rfl c E w cur hbl hv) ?_
    | refine aw_lit ttOk zOk foOk (i:=23) (lo:=lo) (m:=n) (ok:=true) (mav:=m.acs 23) rfl rfl rfl rfl rfl rfl (by decide) rfl (by decide) rfl (by decide) (by (conv=>whnf);exact ⟨rfl,rfl⟩) rfl rfl rfl rfl rfl rfl rfl (by decide) (by decide) rfl (by (conv=>whnf);rfl) (fun c E w cur hbl hv=>lit_sp m hms rfl c E w cur hbl hv) ?_
    | fail
   refine ⟨rfl,AW_go ttOk zOk foOk ?_⟩
   conv=>whnf
   refine rdw ?_;repeat' ((with_reducible apply tw)<;>intro _)
   ((with_reducible refine draw_pl ttOk zOk foOk mixedOk pl19x54 ?_ ?_);(focus kernel_rfl);(conv=>whnf))
   refine rdw ?_;repeat' ((with_reducible apply tw)<;>intro _)
   (refine (num20_ok 1).mono ?_;rintro _ _ ⟨rfl,rfl⟩;(conv=>whnf))
   refine rdw ?_;repeat' ((with_reducible apply tw)<;>intro _)
   (refine (eqPZ_ok lo2 n2).mono ?_;rintro _ _ ⟨rfl,rfl⟩;(conv=>whnf))
   refine rdw ?_;repeat' ((with_reducible apply tw)<;>intro _)
   (refine Or.inr ?_;(conv=>whnf))
   (refine (eqMI_ok [] (Nat.zero_le _) (fun _ h=>by cases h) lo2 n2).mono ?_;rintro _ _ ⟨rfl,rfl⟩;(conv=>whnf))
   refine rdw ?_;repeat' ((with_reducible apply tw)<;>intro _)
   (refine (h6).mono ?_;rintro _ _ ⟨rfl,rfl⟩;(conv=>whnf))
   refine rdw ?_;repeat' ((with_reducible apply tw)<;>intro _)
   (refine (spoilP_ok zP zP_fit lo2 n2 true).mono ?_;rintro _ _ ⟨rfl,rfl⟩;(conv=>whnf))
   refine rdw ?_;repeat' ((with_reducible apply tw)<;>intro _)
   (refine (spoilM_ok [] (Nat.zero_le _) (fun _ h=>by cases h) lo2 n2 false).mono ?_;rintro _ _ ⟨rfl,rfl⟩;(conv=>whnf))
   refine rdw ?_;repeat' ((with_reducible apply tw)<;>intro _)
   ((with_reducible refine draw_pl ttOk zOk foOk mixedOk pl19x58 ?_ ?_);(focus kernel_rfl);(conv=>whnf))
   repeat' (first|(first|((with_reducible first|apply rd_intro|apply gd_and);(focus ((conv=>whnf)<;>first|rfl|(intro K hK;(conv=>whnf);first|exact hK|exact z_wrap (by omega) hK)));conv=>whnf)|((with_reducible apply z_wrap);(focus omega);conv=>whnf)|((with_reducible first|apply mt_dec|apply mt_eq|apply mt_ne|apply mt_not|apply mt_any)<;>(intro _;conv=>whnf)))|((with_reducible apply rd_intro);(focus (intro K hK;(conv=>whnf);refine h6.mono ?_;rintro _ _ ⟨rfl,rfl⟩;(conv=>whnf);exact hK));(conv=>whnf))|((with_reducible apply gd_and);(focus ((conv=>whnf);intro K hK;(conv=>whnf);refine h6.mono ?_;rintro _ _ ⟨rfl,rfl⟩;(conv=>whnf);exact hK));(conv=>whnf))|(refine (h6).mono ?_;rintro _ _ ⟨rfl,rfl⟩;(conv=>whnf))|fail)
   exact ⟨.inl rfl,⟨p,rfl⟩,rfl⟩
 | true =>
   have k1:May p:=of_decide_eq_true hb
   refine aw_seqr (AW_go ttOk zOk foOk ?_)
   conv=>whnf
   refine rdw ?_;repeat' ((with_reducible apply tw)<;>intro _)
   refine (hF.page k1).mono ?_
   rintro _ _ (⟨hC,rfl,j,rfl⟩|⟨hC,rfl,rfl⟩)
   ·obtain ⟨q1,q2⟩:=hF.qok hC
    cases j
    ·conv=>whnf
     refine aw_seqr (AW_go ttOk zOk foOk ?_)
     conv=>whnf
     refine rdw ?_;repeat' ((with_reducible apply tw)<;>intro _)
     refine hcm.mono ?_
     rintro _ _ ⟨rfl,lo,n,rfl⟩
     conv=>whnf
     refine rdw ?_;repeat' ((with_reducible apply tw)<;>intro _)
     refine aw_seqr (AW_go ttOk zOk foOk ?_)
     conv=>whnf
     ((with_reducible refine draw_pl ttOk zOk foOk mixedOk pl19x13 ?_ ?_);(focus kernel_rfl);(conv=>whnf))
     refine rdw ?_;repeat' ((with_reducible apply tw)<;>intro _)
     (refine (hcn).mono ?_;rintro _ _ ⟨rfl,rfl⟩;(conv=>whnf))
     refine rdw ?_;repeat' ((with_reducible apply tw)<;>intro _)
     refine (hF.prog lo n).mono ?_
     rintro _ _ ⟨⟨_,rfl⟩|⟨hno,_⟩,lo2,n2,rfl⟩
     rotate_left
     ·exact absurd hC hno
     conv=>whnf
     refine rdw ?_;repeat' ((with_reducible apply tw)<;>intro _)
     refine aw_seqr (AW_go ttOk zOk foOk ?_)
     conv=>whnf
     refine rdw ?_;repeat' ((with_reducible apply tw)<;>intro _)
     refine (eqCI_ok m hms.fine lo n).mono ?_
     rintro _ _ ⟨rfl,rfl⟩
     conv=>whnf
     first
      | refine aw_lit ttOk zOk foOk (i:=12) (lo:=lo) (m:=n) (ok:=true) (mav:=m.acs 12) rfl rfl rfl rfl rfl rfl (by decide) rfl (by decide) rfl (by decide) (by (conv=>whnf);exact ⟨rfl,rfl⟩) rfl rfl rfl rfl rfl rfl rfl (by decide) (by decide) rfl (by (conv=>whnf);rfl) (fun c E w cur hbl hv=>lit_sp m hms rfl c E w cur hbl hv) ?_
      | refine aw_lit ttOk zOk foOk (i:=13) (lo:=lo) (m:=n) (ok:=true) (mav:=m.acs 13) rfl rfl rfl rfl rfl rfl (by decide) rfl (by decide) rfl (by decide) (by (conv=>whnf);exact ⟨rfl,rfl⟩) rfl rfl rfl rfl rfl rfl rfl (by decide) (by decide) rfl (by (conv=>whnf);rfl) (fun c E w cur hbl hv=>lit_sp m hms rfl c E w cur hbl hv) ?_
      | refine aw_lit ttOk zOk foOk (i:=14) (lo:=lo) (m:=n) (ok:=true) (mav:=m.acs 14) rfl rfl rfl rfl rfl rfl (by decide) rfl (by decide) rfl (by decide) (by (conv=>whnf);exact ⟨rfl,rfl⟩) rfl rfl rfl rfl rfl rfl rfl (by decide) (by decide) rfl (by (conv=>whnf);rfl) (fun c E w cur hbl hv=>lit_sp m hms rfl c E w cur hbl hv) ?_
      | refine aw_lit ttOk zOk foOk (i:=15) (lo:=lo) (m:=n) (ok:=true) (mav:=m.acs 15) rfl rfl rfl rfl rfl rfl (by decide) rfl (by decide) rfl (by decide) (by (conv=>whnf);exact ⟨rfl,rfl⟩) rfl rfl rfl rfl rfl rfl rfl (by decide) (by decide) rfl (by (conv=>whnf);rfl) (fun c E w cur hbl hv=>lit_sp m hms rfl c E w cur hbl hv) ?_
      | refine aw_lit ttOk zOk foOk (i:=16) (lo:=lo) (m:=n) (ok:=true) (mav:=m.acs 16) rfl rfl rfl rfl rfl rfl (by decide) rfl (by decide) rfl (by decide) (by (conv=>whnf);exact ⟨rfl,rfl⟩) rfl rfl rfl rfl rfl rfl rfl (by decide) (by decide) rfl (by (conv=>whnf);rfl) (fun c E w cur hbl hv=>lit_sp m hms rfl c E w cur hbl hv) ?_
      | refine aw_lit ttOk zOk foOk (i:=17) (lo:=lo) (m:=n) (ok:=true) (mav:=m.acs 17) rfl rfl rfl rfl rfl rfl (by decide) rfl (by decide) rfl (by decide) (by (conv=>whnf);exact ⟨rfl,rfl⟩) rfl rfl rfl rfl rfl rfl rfl (by decide) (by decide) rfl (by (conv=>whnf);rfl) (fun c E w cur hbl hv=>lit_sp m hms rfl c E w cur hbl hv) ?_
      | refine aw_lit ttOk zOk foOk (i:=18) (lo:=lo) (m:=n) (ok:=true) (mav:=m.acs 18) rfl rfl rfl rfl rfl rfl (by decide) rfl (by decide) rfl (by decide) (by (conv=>whnf);exact ⟨rfl,rfl⟩) rfl rfl rfl rfl rfl rfl rfl (by decide) (by decide) rfl (by (conv=>whnf);rfl) (fun c E w cur hbl hv=>lit_sp m hms rfl c E w cur hbl hv) ?_
      | refine aw_lit ttOk zOk foOk (i:=19) (lo:=lo) (m:=n) (ok:=true) (mav:=m.acs 19) rfl rfl rfl rfl rfl rfl (by decide) rfl (by decide) rfl (by decide) (by (conv=>whnf);exact ⟨rfl,rfl⟩) rfl rfl rfl rfl rfl rfl rfl (by decide) (by decide) rfl (by (conv=>whnf);rfl) (fun c E w cur hbl hv=>lit_sp m hms rfl c E w cur hbl hv) ?_
      | refine aw_lit ttOk zOk foOk (i:=20) (lo:=lo) (m:=n) (ok:=true) (mav:=m.acs 20) rfl rfl rfl rfl rfl rfl (by decide) rfl (by decide) rfl (by decide) (by (conv=>whnf);exact ⟨rfl,rfl⟩) rfl rfl rfl rfl rfl rfl rfl (by decide) (by decide) rfl (by (conv=>whnf);rfl) (fun c E w cur hbl hv=>lit_sp m hms rfl c E w cur hbl hv) ?_
      | refine aw_lit ttOk zOk foOk (i:=21) (lo:=lo) (m:=n) (ok:=true) (mav:=m.acs 21) rfl rfl rfl rfl rfl rfl (by decide) rfl (by decide) rfl (by decide) (by (conv=>whnf);exact ⟨rfl,rfl⟩) rfl rfl rfl rfl rfl rfl rfl (by decide) (by decide) rfl (by (conv=>whnf);rfl) (fun c E w cur hbl hv=>lit_sp m hms rfl c E w cur hbl hv) ?_
      | refine aw_lit ttOk zOk foOk (i:=22) (lo:=lo) (m:=n) (ok:=true) (mav:=m.acs 22) rfl rfl rfl rfl rfl rfl (by decide) rfl (by decide) rfl (by decide) (by (conv=>whnf);exact ⟨rfl,rfl⟩) rfl rfl rfl rfl rfl rfl rfl (by decide) (by decide) rfl (by (conv=>whnf);rfl) (fun c E w cur hbl hv=>lit_sp m hms rfl c E w cur hbl hv) ?_
      | refine aw_lit ttOk zOk foOk (i:=23) (lo:=lo) (m:=n) (ok:=true) (mav:=m.acs 23) rfl rfl rfl rfl rfl rfl (by decide) rfl (by decide) rfl (by decide) (by (conv=>whnf);exact ⟨rfl,rfl⟩) rfl rfl rfl rfl rfl rfl rfl (by decide) (by decide) rfl (by (conv=>whnf);rfl) (fun c E w cur hbl hv=>lit_sp m hms rfl c E w cur hbl hv) ?_
      | fail
     refine ⟨rfl,AW_go ttOk zOk foOk ?_⟩
     conv=>whnf
     refine rdw ?_;repeat' ((with_reducible apply tw)<;>intro _)
     ((with_reducible refine draw_pl ttOk zOk foOk mixedOk pl19x54 ?_ ?_);(focus kernel_rfl);(conv=>whnf))
     refine rdw ?_;repeat' ((with_reducible apply tw)<;>intro _)
     (refine (num20_ok 0).mono ?_;rintro _ _ ⟨rfl,rfl⟩;(conv=>whnf))
     refine rdw ?_;repeat' ((with_reducible apply tw)<;>intro _)
     (refine (eqPI_ok q q1 ⟨by have:=q2.dag.1;unfold few;omega,fun c hc=>fit_few (q2.dag.2 c hc)⟩ ⟨by have:=q2.late.1;unfold few;omega,fun c hc=>fit_few (q2.late.2 c hc)⟩ (by have:=q2.votes;unfold few;omega) (by have:=q2.acks;unfold few;omega) ⟨by have:=q2.bats;unfold few;omega,by have:=q2.pars;unfold few;omega⟩ lo2 n2).mono ?_;rintro _ _ ⟨rfl,rfl⟩;(conv=>whnf))
     refine rdw ?_;repeat' ((with_reducible apply tw)<;>intro _)
     (refine Or.inr ?_;(conv=>whnf))
     (refine (eqMI_ok o (by have:=hF.len hC;unfold few;omega) (hF.nice hC) lo2 n2).mono ?_;rintro _ _ ⟨rfl,rfl⟩;(conv=>whnf))
     refine rdw ?_;repeat' ((with_reducible apply tw)<;>intro _)
     (refine (h6).mono ?_;rintro _ _ ⟨rfl,rfl⟩;(conv=>whnf))
     refine rdw ?_;repeat' ((with_reducible apply tw)<;>intro _)
     (refine (spoilP_ok q q2 lo2 n2 true).mono ?_;rintro _ _ ⟨rfl,rfl⟩;(conv=>whnf))
     refine rdw ?_;repeat' ((with_reducible apply tw)<;>intro _)
     (refine (spoilM_ok o (by have:=hF.len hC;omega) (fun m hm=>(hF.nice hC m hm).fit) lo2 n2 false).mono ?_;rintro _ _ ⟨rfl,rfl⟩;(conv=>whnf))
     refine rdw ?_;repeat' ((with_reducible apply tw)<;>intro _)
     ((with_reducible refine draw_pl ttOk zOk foOk mixedOk pl19x59 ?_ ?_);(focus kernel_rfl);(conv=>whnf))
     repeat' (first|(first|((with_reducible first|apply rd_intro|apply gd_and);(focus ((conv=>whnf)<;>first|rfl|(intro K hK;(conv=>whnf);first|exact hK|exact z_wrap (by omega) hK)));conv=>whnf)|((with_reducible apply z_wrap);(focus omega);conv=>whnf)|((with_reducible first|apply mt_dec|apply mt_eq|apply mt_ne|apply mt_not|apply mt_any)<;>(intro _;conv=>whnf)))|((with_reducible apply rd_intro);(focus (intro K hK;(conv=>whnf);refine h6.mono ?_;rintro _ _ ⟨rfl,rfl⟩;(conv=>whnf);exact hK));(conv=>whnf))|((with_reducible apply gd_and);(focus ((conv=>whnf);intro K hK;(conv=>whnf);refine h6.mono ?_;rintro _ _ ⟨rfl,rfl⟩;(conv=>whnf);exact hK));(conv=>whnf))|(refine (h6).mono ?_;rintro _ _ ⟨rfl,rfl⟩;(conv=>whnf))|fail)
     exact ⟨.inl rfl,⟨q,rfl⟩,rfl⟩
    ·conv=>whnf
     refine aw_seqr (AW_go ttOk zOk foOk ?_)
     conv=>whnf
     refine rdw ?_;repeat' ((with_reducible apply tw)<;>intro _)
     refine hcm.mono ?_
     rintro _ _ ⟨rfl,lo,n,rfl⟩
     conv=>whnf
     refine rdw ?_;repeat' ((with_reducible apply tw)<;>intro _)
     refine aw_seqr (AW_go ttOk zOk foOk ?_)
     conv=>whnf
     ((with_reducible refine draw_pl ttOk zOk foOk mixedOk pl19x13 ?_ ?_);(focus kernel_rfl);(conv=>whnf))
     refine rdw ?_;repeat' ((with_reducible apply tw)<;>intro _)
     (refine (hcn).mono ?_;rintro _ _ ⟨rfl,rfl⟩;(conv=>whnf))
     refine rdw ?_;repeat' ((with_reducible apply tw)<;>intro _)
     refine (hF.prog lo n).mono ?_
     rintro _ _ ⟨⟨_,rfl⟩|⟨hno,_⟩,lo2,n2,rfl⟩
     rotate_left
     ·exact absurd hC hno
     conv=>whnf
     refine rdw ?_;repeat' ((with_reducible apply tw)<;>intro _)
     refine aw_seqr (AW_go ttOk zOk foOk ?_)
     conv=>whnf
     refine rdw ?_;repeat' ((with_reducible apply tw)<;>intro _)
     refine (eqCI_ok m hms.fine lo n).mono ?_
     rintro _ _ ⟨rfl,rfl⟩
     conv=>whnf
     first
      | refine aw_lit ttOk zOk foOk (i:=12) (lo:=lo) (m:=n) (ok:=true) (mav:=m.acs 12) rfl rfl rfl rfl rfl rfl (by decide) rfl (by decide) rfl (by decide) (by (conv=>whnf);exact ⟨rfl,rfl⟩) rfl rfl rfl rfl rfl rfl rfl (by decide) (by decide) rfl (by (conv=>whnf);rfl) (fun c E w cur hbl hv=>lit_sp m hms rfl c E w cur hbl hv) ?_
      | refine aw_lit ttOk zOk foOk (i:=13) (lo:=lo) (m:=n) (ok:=true) (mav:=m.acs 13) rfl rfl rfl rfl rfl rfl (by decide) rfl (by decide) rfl (by decide) (by (conv=>whnf);exact ⟨rfl,rfl⟩) rfl rfl rfl rfl rfl rfl rfl (by decide) (by decide) rfl (by (conv=>whnf);rfl) (fun c E w cur hbl hv=>lit_sp m hms rfl c E w cur hbl hv) ?_
      | refine aw_lit ttOk zOk foOk (i:=14) (lo:=lo) (m:=n) (ok:=true) (mav:=m.acs 14) rfl rfl rfl rfl rfl rfl (by decide) rfl (by decide) rfl (by decide) (by (conv=>whnf);exact ⟨rfl,rfl⟩) rfl rfl rfl rfl rfl rfl rfl (by decide) (by decide) rfl (by (conv=>whnf);rfl) (fun c E w cur hbl hv=>lit_sp m hms rfl c E w cur hbl hv) ?_
      | refine aw_lit ttOk zOk foOk (i:=15) (lo:=lo) (m:=n) (ok:=true) (mav:=m.acs 15) rfl rfl rfl rfl rfl rfl (by decide) rfl (by decide) rfl (by decide) (by (conv=>whnf);exact ⟨rfl,rfl⟩) rfl rfl rfl rfl rfl rfl rfl (by decide) (by decide) rfl (by (conv=>whnf);rfl) (fun c E w cur hbl hv=>lit_sp m hms rfl c E w cur hbl hv) ?_
      | refine aw_lit ttOk zOk foOk (i:=16) (lo:=lo) (m:=n) (ok:=true) (mav:=m.acs 16) rfl rfl rfl rfl rfl rfl (by decide) rfl (by decide) rfl (by decide) (by (conv=>whnf);exact ⟨rfl,rfl⟩) rfl rfl rfl rfl rfl rfl rfl (by decide) (by decide) rfl (by (conv=>whnf);rfl) (fun c E w cur hbl hv=>lit_sp m hms rfl c E w cur hbl hv) ?_
      | refine aw_lit ttOk zOk foOk (i:=17) (lo:=lo) (m:=n) (ok:=true) (mav:=m.acs 17) rfl rfl rfl rfl rfl rfl (by decide) rfl (by decide) rfl (by decide) (by (conv=>whnf);exact ⟨rfl,rfl⟩) rfl rfl rfl rfl rfl rfl rfl (by decide) (by decide) rfl (by (conv=>whnf);rfl) (fun c E w cur hbl hv=>lit_sp m hms rfl c E w cur hbl hv) ?_
      | refine aw_lit ttOk zOk foOk (i:=18) (lo:=lo) (m:=n) (ok:=true) (mav:=m.acs 18) rfl rfl rfl rfl rfl rfl (by decide) rfl (by decide) rfl (by decide) (by (conv=>whnf);exact ⟨rfl,rfl⟩) rfl rfl rfl rfl rfl rfl rfl (by decide) (by decide) rfl (by (conv=>whnf);rfl) (fun c E w cur hbl hv=>lit_sp m hms rfl c E w cur hbl hv) ?_
      | refine aw_lit ttOk zOk foOk (i:=19) (lo:=lo) (m:=n) (ok:=true) (mav:=m.acs 19) rfl rfl rfl rfl rfl rfl (by decide) rfl (by decide) rfl (by decide) (by (conv=>whnf);exact ⟨rfl,rfl⟩) rfl rfl rfl rfl rfl rfl rfl (by decide) (by decide) rfl (by (conv=>whnf);rfl) (fun c E w cur hbl hv=>lit_sp m hms rfl c E w cur hbl hv) ?_
      | refine aw_lit ttOk zOk foOk (i:=20) (lo:=lo) (m:=n) (ok:=true) (mav:=m.acs 20) rfl rfl rfl rfl rfl rfl (by decide) rfl (by decide) rfl (by decide) (by (conv=>whnf);exact ⟨rfl,rfl⟩) rfl rfl rfl rfl rfl rfl rfl (by decide) (by decide) rfl (by (conv=>whnf);rfl) (fun c E w cur hbl hv=>lit_sp m hms rfl c E w cur hbl hv) ?_
      | refine aw_lit ttOk zOk foOk (i:=21) (lo:=lo) (m:=n) (ok:=true) (mav:=m.acs 21) rfl rfl rfl rfl rfl rfl (by decide) rfl (by decide) rfl (by decide) (by (conv=>whnf);exact ⟨rfl,rfl⟩) rfl rfl rfl rfl rfl rfl rfl (by decide) (by decide) rfl (by (conv=>whnf);rfl) (fun c E w cur hbl hv=>lit_sp m hms rfl c E w cur hbl hv) ?_
      | refine aw_lit ttOk zOk foOk (i:=22) (lo:=lo) (m:=n) (ok:=true) (mav:=m.acs 22) rfl rfl rfl rfl rfl rfl (by decide) rfl (by decide) rfl (by decide) (by (conv=>whnf);exact ⟨rfl,rfl⟩) rfl rfl rfl rfl rfl rfl rfl (by decide) (by decide) rfl (by (conv=>whnf);rfl) (fun c E w cur hbl hv=>lit_sp m hms rfl c E w cur hbl hv) ?_
      | refine aw_lit ttOk zOk foOk (i:=23) (lo:=lo) (m:=n) (ok:=true) (mav:=m.acs 23) rfl rfl rfl rfl rfl rfl (by decide) rfl (by decide) rfl (by decide) (by (conv=>whnf);exact ⟨rfl,rfl⟩) rfl rfl rfl rfl rfl rfl rfl (by decide) (by decide) rfl (by (conv=>whnf);rfl) (fun c E w cur hbl hv=>lit_sp m hms rfl c E w cur hbl hv) ?_
      | fail
     refine ⟨rfl,AW_go ttOk zOk foOk ?_⟩
     conv=>whnf
     refine rdw ?_;repeat' ((with_reducible apply tw)<;>intro _)
     ((with_reducible refine draw_pl ttOk zOk foOk mixedOk pl19x54 ?_ ?_);(focus kernel_rfl);(conv=>whnf))
     refine rdw ?_;repeat' ((with_reducible apply tw)<;>intro _)
     (refine (num20_ok 0).mono ?_;rintro _ _ ⟨rfl,rfl⟩;(conv=>whnf))
     refine rdw ?_;repeat' ((with_reducible apply tw)<;>intro _)
     (refine (eqPI_ok q q1 ⟨by have:=q2.dag.1;unfold few;omega,fun c hc=>fit_few (q2.dag.2 c hc)⟩ ⟨by have:=q2.late.1;unfold few;omega,fun c hc=>fit_few (q2.late.2 c hc)⟩ (by have:=q2.votes;unfold few;omega) (by have:=q2.acks;unfold few;omega) ⟨by have:=q2.bats;unfold few;omega,by have:=q2.pars;unfold few;omega⟩ lo2 n2).mono ?_;rintro _ _ ⟨rfl,rfl⟩;(conv=>whnf))
     refine rdw ?_;repeat' ((with_reducible apply tw)<;>intro _)
     (refine Or.inr ?_;(conv=>whnf))
     (refine (eqMI_ok o (by have:=hF.len hC;unfold few;omega) (hF.nice hC) lo2 n2).mono ?_;rintro _ _ ⟨rfl,rfl⟩;(conv=>whnf))
     refine rdw ?_;repeat' ((with_reducible apply tw)<;>intro _)
     (refine (h6).mono ?_;rintro _ _ ⟨rfl,rfl⟩;(conv=>whnf))
     refine rdw ?_;repeat' ((with_reducible apply tw)<;>intro _)
     (refine (spoilP_ok q q2 lo2 n2 true).mono ?_;rintro _ _ ⟨rfl,rfl⟩;(conv=>whnf))
     refine rdw ?_;repeat' ((with_reducible apply tw)<;>intro _)
     (refine (spoilM_ok o (by have:=hF.len hC;omega) (fun m hm=>(hF.nice hC m hm).fit) lo2 n2 false).mono ?_;rintro _ _ ⟨rfl,rfl⟩;(conv=>whnf))
     refine rdw ?_;repeat' ((with_reducible apply tw)<;>intro _)
     ((with_reducible refine draw_pl ttOk zOk foOk mixedOk pl19x59 ?_ ?_);(focus kernel_rfl);(conv=>whnf))
     repeat' (first|(first|((with_reducible first|apply rd_intro|apply gd_and);(focus ((conv=>whnf)<;>first|rfl|(intro K hK;(conv=>whnf);first|exact hK|exact z_wrap (by omega) hK)));conv=>whnf)|((with_reducible apply z_wrap);(focus omega);conv=>whnf)|((with_reducible first|apply mt_dec|apply mt_eq|apply mt_ne|apply mt_not|apply mt_any)<;>(intro _;conv=>whnf)))|((with_reducible apply rd_intro);(focus (intro K hK;(conv=>whnf);refine h6.mono ?_;rintro _ _ ⟨rfl,rfl⟩;(conv=>whnf);exact hK));(conv=>whnf))|((with_reducible apply gd_and);(focus ((conv=>whnf);intro K hK;(conv=>whnf);refine h6.mono ?_;rintro _ _ ⟨rfl,rfl⟩;(conv=>whnf);exact hK));(conv=>whnf))|(refine (h6).mono ?_;rintro _ _ ⟨rfl,rfl⟩;(conv=>whnf))|fail)
     exact ⟨.inl rfl,⟨q,rfl⟩,rfl⟩
   ·conv=>whnf
    refine aw_seqr (AW_go ttOk zOk foOk ?_)
    conv=>whnf
    refine rdw ?_;repeat' ((with_reducible apply tw)<;>intro _)
    refine hcm.mono ?_
    rintro _ _ ⟨rfl,lo,n,rfl⟩
    conv=>whnf
    refine rdw ?_;repeat' ((with_reducible apply tw)<;>intro _)
    refine aw_seqr (AW_go ttOk zOk foOk ?_)
    conv=>whnf
    ((with_reducible refine draw_pl ttOk zOk foOk mixedOk pl19x13 ?_ ?_);(focus kernel_rfl);(conv=>whnf))
    refine rdw ?_;repeat' ((with_reducible apply tw)<;>intro _)
    (refine (hcn).mono ?_;rintro _ _ ⟨rfl,rfl⟩;(conv=>whnf))
    refine rdw ?_;repeat' ((with_reducible apply tw)<;>intro _)
    refine (hF.prog lo n).mono ?_
    rintro _ _ ⟨⟨hyes,_⟩|⟨_,rfl⟩,lo2,n2,rfl⟩
    ·exact absurd hyes hC
    conv=>whnf
    refine rdw ?_;repeat' ((with_reducible apply tw)<;>intro _)
    refine aw_seqr (AW_go ttOk zOk foOk ?_)
    conv=>whnf
    refine rdw ?_;repeat' ((with_reducible apply tw)<;>intro _)
    refine (eqCI_ok m hms.fine lo n).mono ?_
    rintro _ _ ⟨rfl,rfl⟩
    conv=>whnf
    first
     | refine aw_lit ttOk zOk foOk (i:=12) (lo:=lo) (m:=n) (ok:=true) (mav:=m.acs 12) rfl rfl rfl rfl rfl rfl (by decide) rfl (by decide) rfl (by decide) (by (conv=>whnf);exact ⟨rfl,rfl⟩) rfl rfl rfl rfl rfl rfl rfl (by decide) (by decide) rfl (by (conv=>whnf);rfl) (fun c E w cur hbl hv=>lit_sp m hms rfl c E w cur hbl hv) ?_
     | refine aw_lit ttOk zOk foOk (i:=13) (lo:=lo) (m:=n) (ok:=true) (mav:=m.acs 13) rfl rfl rfl rfl rfl rfl (by decide) rfl (by decide) rfl (by decide) (by (conv=>whnf);exact ⟨rfl,rfl⟩) rfl rfl rfl rfl rfl rfl rfl (by decide) (by decide) rfl (by (conv=>whnf);rfl) (fun c E w cur hbl hv=>lit_sp m hms rfl c E w cur hbl hv) ?_
     | refine aw_lit ttOk zOk foOk (i:=14) (lo:=lo) (m:=n) (ok:=true) (mav:=m.acs 14) rfl rfl rfl rfl rfl rfl (by decide) rfl (by decide) rfl (by decide) (by (conv=>whnf);exact ⟨rfl,rfl⟩) rfl rfl rfl rfl rfl rfl rfl (by decide) (by decide) rfl (by (conv=>whnf);rfl) (fun c E w cur hbl hv=>lit_sp m hms rfl c E w cur hbl hv) ?_
     | refine aw_lit ttOk zOk foOk (i:=15) (lo:=lo) (m:=n) (ok:=true) (mav:=m.acs 15) rfl rfl rfl rfl rfl rfl (by decide) rfl (by decide) rfl (by decide) (by (conv=>whnf);exact ⟨rfl,rfl⟩) rfl rfl rfl rfl rfl rfl rfl (by decide) (by decide) rfl (by (conv=>whnf);rfl) (fun c E w cur hbl hv=>lit_sp m hms rfl c E w cur hbl hv) ?_
     | refine aw_lit ttOk zOk foOk (i:=16) (lo:=lo) (m:=n) (ok:=true) (mav:=m.acs 16) rfl rfl rfl rfl rfl rfl (by decide) rfl (by decide) rfl (by decide) (by (conv=>whnf);exact ⟨rfl,rfl⟩) rfl rfl rfl rfl rfl rfl rfl (by decide) (by decide) rfl (by (conv=>whnf);rfl) (fun c E w cur hbl hv=>lit_sp m hms rfl c E w cur hbl hv) ?_
     | refine aw_lit ttOk zOk foOk (i:=17) (lo:=lo) (m:=n) (ok:=true) (mav:=m.acs 17) rfl rfl rfl rfl rfl rfl (by decide) rfl (by decide) rfl (by decide) (by (conv=>whnf);exact ⟨rfl,rfl⟩) rfl rfl rfl rfl rfl rfl rfl (by decide) (by decide) rfl (by (conv=>whnf);rfl) (fun c E w cur hbl hv=>lit_sp m hms rfl c E w cur hbl hv) ?_
     | refine aw_lit ttOk zOk foOk (i:=18) (lo:=lo) (m:=n) (ok:=true) (mav:=m.acs 18) rfl rfl rfl rfl rfl rfl (by decide) rfl (by decide) rfl (by decide) (by (conv=>whnf);exact ⟨rfl,rfl⟩) rfl rfl rfl rfl rfl rfl rfl (by decide) (by decide) rfl (by (conv=>whnf);rfl) (fun c E w cur hbl hv=>lit_sp m hms rfl c E w cur hbl hv) ?_
     | refine aw_lit ttOk zOk foOk (i:=19) (lo:=lo) (m:=n) (ok:=true) (mav:=m.acs 19) rfl rfl rfl rfl rfl rfl (by decide) rfl (by decide) rfl (by decide) (by (conv=>whnf);exact ⟨rfl,rfl⟩) rfl rfl rfl rfl rfl rfl rfl (by decide) (by decide) rfl (by (conv=>whnf);rfl) (fun c E w cur hbl hv=>lit_sp m hms rfl c E w cur hbl hv) ?_
     | refine aw_lit ttOk zOk foOk (i:=20) (lo:=lo) (m:=n) (ok:=true) (mav:=m.acs 20) rfl rfl rfl rfl rfl rfl (by decide) rfl (by decide) rfl (by decide) (by (conv=>whnf);exact ⟨rfl,rfl⟩) rfl rfl rfl rfl rfl rfl rfl (by decide) (by decide) rfl (by (conv=>whnf);rfl) (fun c E w cur hbl hv=>lit_sp m hms rfl c E w cur hbl hv) ?_
     | refine aw_lit ttOk zOk foOk (i:=21) (lo:=lo) (m:=n) (ok:=true) (mav:=m.acs 21) rfl rfl rfl rfl rfl rfl (by decide) rfl (by decide) rfl (by decide) (by (conv=>whnf);exact ⟨rfl,rfl⟩) rfl rfl rfl rfl rfl rfl rfl (by decide) (by decide) rfl (by (conv=>whnf);rfl) (fun c E w cur hbl hv=>lit_sp m hms rfl c E w cur hbl hv) ?_
     | refine aw_lit ttOk zOk foOk (i:=22) (lo:=lo) (m:=n) (ok:=true) (mav:=m.acs 22) rfl rfl rfl rfl rfl rfl (by decide) rfl (by decide) rfl (by decide) (by (conv=>whnf);exact ⟨rfl,rfl⟩) rfl rfl rfl rfl rfl rfl rfl (by decide) (by decide) rfl (by (conv=>whnf);rfl) (fun c E w cur hbl hv=>lit_sp m hms rfl c E w cur hbl hv) ?_
     | refine aw_lit ttOk zOk foOk (i:=23) (lo:=lo) (m:=n) (ok:=true) (mav:=m.acs 23) rfl rfl rfl rfl rfl rfl (by decide) rfl (by decide) rfl (by decide) (by (conv=>whnf);exact ⟨rfl,rfl⟩) rfl rfl rfl rfl rfl rfl rfl (by decide) (by decide) rfl (by (conv=>whnf);rfl) (fun c E w cur hbl hv=>lit_sp m hms rfl c E w cur hbl hv) ?_
     | fail
    refine ⟨rfl,AW_go ttOk zOk foOk ?_⟩
    conv=>whnf
    refine rdw ?_;repeat' ((with_reducible apply tw)<;>intro _)
    ((with_reducible refine draw_pl ttOk zOk foOk mixedOk pl19x54 ?_ ?_);(focus kernel_rfl);(conv=>whnf))
    refine rdw ?_;repeat' ((with_reducible apply tw)<;>intro _)
    (refine (num20_ok 1).mono ?_;rintro _ _ ⟨rfl,rfl⟩;(conv=>whnf))
    refine rdw ?_;repeat' ((with_reducible apply tw)<;>intro _)
    (refine (eqPZ_ok lo2 n2).mono ?_;rintro _ _ ⟨rfl,rfl⟩;(conv=>whnf))
    refine rdw ?_;repeat' ((with_reducible apply tw)<;>intro _)
    (refine Or.inr ?_;(conv=>whnf))
    (refine (eqMI_ok [] (Nat.zero_le _) (fun _ h=>by cases h) lo2 n2).mono ?_;rintro _ _ ⟨rfl,rfl⟩;(conv=>whnf))
    refine rdw ?_;repeat' ((with_reducible apply tw)<;>intro _)
    (refine (h6).mono ?_;rintro _ _ ⟨rfl,rfl⟩;(conv=>whnf))
    refine rdw ?_;repeat' ((with_reducible apply tw)<;>intro _)
    (refine (spoilP_ok zP zP_fit lo2 n2 true).mono ?_;rintro _ _ ⟨rfl,rfl⟩;(conv=>whnf))
    refine rdw ?_;repeat' ((with_reducible apply tw)<;>intro _)
    (refine (spoilM_ok [] (Nat.zero_le _) (fun _ h=>by cases h) lo2 n2 false).mono ?_;rintro _ _ ⟨rfl,rfl⟩;(conv=>whnf))
    refine rdw ?_;repeat' ((with_reducible apply tw)<;>intro _)
    ((with_reducible refine draw_pl ttOk zOk foOk mixedOk pl19x58 ?_ ?_);(focus kernel_rfl);(conv=>whnf))
    repeat' (first|(first|((with_reducible first|apply rd_intro|apply gd_and);(focus ((conv=>whnf)<;>first|rfl|(intro K hK;(conv=>whnf);first|exact hK|exact z_wrap (by omega) hK)));conv=>whnf)|((with_reducible apply z_wrap);(focus omega);conv=>whnf)|((with_reducible first|apply mt_dec|apply mt_eq|apply mt_ne|apply mt_not|apply mt_any)<;>(intro _;conv=>whnf)))|((with_reducible apply rd_intro);(focus (intro K hK;(conv=>whnf);refine h6.mono ?_;rintro _ _ ⟨rfl,rfl⟩;(conv=>whnf);exact hK));(conv=>whnf))|((with_reducible apply gd_and);(focus ((conv=>whnf);intro K hK;(conv=>whnf);refine h6.mono ?_;rintro _ _ ⟨rfl,rfl⟩;(conv=>whnf);exact hK));(conv=>whnf))|(refine (h6).mono ?_;rintro _ _ ⟨rfl,rfl⟩;(conv=>whnf))|fail)
    exact ⟨.inl rfl,⟨p,rfl⟩,rfl⟩
theorem okc_fit {n:Int} (hn:isN n=true) {c:Cert} (h:okCert n c):c.fitS:=by
 have hnn:=of_decide_eq_true hn
 have h3:=h.head.bats
 have h4:=h.head.pars
 have h6:=h.sigs
 rw [show n=(n.toNat:Int) by omega] at h6
 have h6:=riseN_len2 h6
 exact ⟨by omega,by omega,by omega⟩
theorem may_fit {p:Prim} (h:May p):p.fitS:=by
 have hnn:=of_decide_eq_true h.isn
 have h1:=h.acks.2
 have h2:=h.votes.len
 have h3:=h.dag.len
 have h4:=h.late.len
 have hm:p.mine.bats.length≤4294967296∧p.mine.pars.length≤4294967296:=by
  by_cases h0:p.dig=0
  ·obtain ⟨_,_,e1,e2,_⟩:=h.mine.none h0
   rw [e1,e2]
   exact ⟨Nat.zero_le _,Nat.zero_le _⟩
  ·have hh:=h.mine.head h0
   have a1:=hh.bats
   have a2:=hh.pars
   exact ⟨by omega,by omega⟩
 exact ⟨hm.1,hm.2,by omega,by omega,⟨by omega,fun c hc=>okc_fit h.isn (by have:=h.dag.certs c hc;rw [h.same] at this;exact this)⟩,by omega,fun c hc=>okc_fit h.isn (h.late.certs c hc)⟩
open Classical in
theorem takeX_of {p:Prim} {m:Msg} {held:List Int} (hk:kindC m) (av:AV) (h:(takeC p m held∧kindC m∧av=doneAV (gotP p m held) (gotO p m held))∨(takeC p m held∧¬kindC m∧av=errAV 10)∨(¬takeC p m held∧av=errAV 1)) :
  (takeC p m held∧av=doneAV (gotP p m held) (gotO p m held))∨(¬takeC p m held∧av=errAV 1):=by
 rcases h with ⟨a,_,b⟩|⟨_,a,_⟩|⟨a,b⟩
 ·exact .inl ⟨a,b⟩
 ·exact absurd hk a
 ·exact .inr ⟨a,b⟩
end Go.Proofs.YtolkmjfkkkiboaaGreat
