/- PrimaryStrange: contracts. -/
import Derived.Test.YtolkmjfkkkiboaaGreatPrimaryStrangeCodR
set_option linter.unusedVariables false
set_option linter.unusedSimpArgs false
namespace Go.Proofs.YtolkmjfkkkiboaaGreat
open Go.Ab Go.RowKit Go.MapKept
attribute [local irreducible] ACalls AW ADraw Into fltB fnear
set_option maxRecDepth 100000
theorem atV_at {l:List Vote} {r a:Int} {k:Nat} {v:Vote} (hv:l[k]? = some v) (h1:v.round=r∧v.author=a) (h2:∀ x∈l.take k,¬(x.round=r∧x.author=a)):atV l r a=some v:=by
 obtain ⟨hk,rfl⟩:=List.getElem?_eq_some_iff.1 hv
 rw [atV,List.find?_eq_some_iff_getElem]
 refine ⟨by simpa using h1,k,hk,rfl,fun j hj => ?_⟩
 have:=h2 l[j] (List.mem_take_iff_getElem.2 ⟨j,by omega,rfl⟩)
 simp only [Bool.not_eq_true',decide_eq_false_iff_not]
 exact this
theorem atV_no {l:List Vote} {r a:Int} (h:∀ x∈l,¬(x.round=r∧x.author=a)):atV l r a=none:=by
 rw [atV,List.find?_eq_none]
 intro x hx
 simpa using h x hx
theorem rHas_ok (l:List Vote) (hl:few l) (r a:Int):ACalls Tryz.prog 138 [.d (.sl 3 (votesD l)),.d (.int .i64 r),.d (.int .i64 a)] [] (fun av L=>av = .d (.int .i64 (voteAt l r a))∧L=[]):=by
 have hcl:=votesD_length l
 unfold few at hl
 (refine acalls_go ttOk zOk foOk Tryz.func138 rfl Tryz.ntmps138 rfl false rfl ?_);(conv=>whnf)
 refine rdw ?_;repeat' ((with_reducible apply tw)<;>intro _)
 refine loop_go ttOk zOk foOk (σ:=Nat) (fun k=>([(0,.d (.sl 3 (votesD l))),(1,.d (.int .i64 r)),(2,.d (.int .i64 a)),(7,.d (.int .i64 k))],[])) (fun k=>k≤l.length∧∀ x∈l.take k,¬(x.round=r∧x.author=a)) (fun k=>l.length - k) [0,1,2,7] ?_ ?_
 ·conv=>whnf
  exact ⟨0,rfl,rfl,Nat.zero_le _,fun x hx=>by simp at hx⟩
 ·rintro k ⟨hk,hno⟩
  conv=>whnf
  refine rdw ?_;repeat' ((with_reducible apply tw)<;>intro _)
  ·rename_i k1
   replace k1:(k:Int)<((votesD l).length:Int):=k1
   refine Exists.elim (⟨_,List.getElem?_eq_getElem (by omega)⟩:∃ v,l[k]? = some v) fun v hv => ?_
   have next:¬(v.round=r∧v.author=a)→∀ x∈l.take (k+1),¬(x.round=r∧x.author=a):=by
    intro hn x hx
    rw [List.take_add_one,hv] at hx
    rcases List.mem_append.1 hx with hx|hx
    ·exact hno x hx
    ·simp at hx;subst hx;exact hn
   refine ⟨by omega,v.cs,votesD_at hv,?_⟩
   conv=>whnf
   refine rdw ?_;repeat' ((with_reducible apply tw)<;>intro _)
   ·rename_i k2
    replace k2:v.round=r:=k2
    refine ⟨by omega,v.cs,votesD_at hv,?_⟩
    conv=>whnf
    refine rdw ?_;repeat' ((with_reducible apply tw)<;>intro _)
    ·rename_i k3
     replace k3:v.author=a:=k3
     refine ⟨by omega,v.cs,votesD_at hv,?_⟩
     conv=>whnf
     refine rdw ?_;repeat' ((with_reducible apply tw)<;>intro _)
     refine ⟨?_,rfl⟩
     rw [voteAt,atV_at hv ⟨k2,k3⟩ hno]
     rfl
    ·rename_i k3
     replace k3:v.author≠a:=k3
     exact ⟨k+1,rfl,rfl,⟨by omega,next fun h=>k3 h.2⟩,by omega⟩
   ·rename_i k2
    replace k2:v.round≠r:=k2
    exact ⟨k+1,rfl,rfl,⟨by omega,next fun h=>k2 h.1⟩,by omega⟩
  ·rename_i k1
   replace k1:¬(k:Int)<((votesD l).length:Int):=k1
   rw [List.take_of_length_le (by omega)] at hno
   refine ⟨?_,rfl⟩
   rw [voteAt,atV_no hno]
   rfl
theorem copyVotes_row (l:List Vote) (hl:l.length≤1099511627776):ACalls Tryz.prog 27 [.d (.sl 3 (votesD l))] [] (fun av L=>av = .arr 0∧L=[.row 106 3 (votesD l) false]):=by
 have hx:=votesD_length l
 (refine acalls_go ttOk zOk foOk Tryz.func27 rfl Tryz.ntmps27 rfl true rfl ?_);(conv=>whnf)
 refine loop_go ttOk zOk foOk (σ:=Nat) (fun j=>([(0,.d (.sl 3 (votesD l))),(3,.arr 0),(4,.d (.int .i64 j))],[.row 106 3 (votesD (l.take j)) false])) (fun j=>j≤l.length) (fun j=>l.length - j) [0,3,4] ?_ ?_
 ·conv=>whnf
  exact ⟨0,rfl,rfl,Nat.zero_le _⟩
 ·intro j hj
  have hlt:=List.length_take_le' j l
  have hxl:=votesD_length (l.take j)
  conv=>whnf
  refine rdw ?_;repeat' ((with_reducible apply tw)<;>intro _)
  ·rename_i h
   replace h:(j:Int)<((votesD l).length:Int):=h
   refine Exists.elim (⟨_,List.getElem?_eq_getElem (by omega)⟩:∃ c,l[j]? = some c) fun a ha => ?_
   refine ⟨by omega,a.cs,votesD_at ha,?_⟩
   conv=>whnf
   refine rdw ?_;repeat' ((with_reducible apply tw)<;>intro _)
   refine ⟨by show ((votesD (l.take j)).length+1) * 24≤_;omega,?_⟩
   conv=>whnf
   refine rdw ?_;repeat' ((with_reducible apply tw)<;>intro _)
   refine ⟨j+1,rfl,?_,by omega,by omega⟩
   rw [List.take_add_one,ha,show votesD (l.take j++(some a).toList)=votesD (l.take j)++[a.cs] by simp [votesD]]
   rfl
  ·rename_i h
   replace h:¬(j:Int)<((votesD l).length:Int):=h
   rw [List.take_of_length_le (by omega)]
   exact ⟨rfl,rfl⟩
def giSt (l:List Vote) (v:Vote) (k:Nat):AF×List AB:=([(0,.d (.sl 3 (votesD l))),(3,.ptr 0 0),(7,.d (.int .i64 k))],[.cells (v.cs.map AV.d)])
def plGi:Plan:=⟨[[],[],[1,0],[0,1,2],[],[4],[4,5,2,1,0,3],[3,0,1,2,5,4,6]],[0,1,2,4],[(3,[]),(5,[]),(6,[7])]⟩
def plGib:Plan:=⟨[[],[],[1,0],[0,1,2],[],[4],[4,5,2,1,0,3],[3,0,1,2,5,4,6]],[0,1,2,4],[(5,[]),(3,[]),(6,[7])]⟩
set_option maxHeartbeats 4000000 in
open Classical in
theorem rGive_ok (l:List Vote) (h:okVotes l) (v:Vote) (hv:okVote v):ACalls Tryz.prog 89 [.d (.sl 3 (votesD l)),v.av] [] (fun av L=>av = .tup [.d (.sl 3 (votesD (putV l v))),.d (.int .i64 (giveE l v))]∧L=[]):=by
 have hcl:=votesD_length l
 have hlen:=h.len
 have hps:=posV_le l v.round v.author
 have h1:=rVote_ok v
 rw [decide_eq_true hv] at h1
 have h2:=rHas_ok l h.few v.round v.author
 (refine acalls_go ttOk zOk foOk Tryz.func89 rfl Tryz.ntmps89 rfl false rfl ?_);(conv=>whnf)
 refine rdw ?_;repeat' ((with_reducible apply tw)<;>intro _)
 (refine (h1).mono ?_;rintro _ _ ⟨rfl,rfl⟩;(conv=>whnf))
 refine rdw ?_;repeat' ((with_reducible apply tw)<;>intro _)
 cases hat:atV l v.round v.author with
 | some y =>
   have hy:okVote y:=h.votes y (List.mem_of_find?_eq_some hat)
   have e0:voteAt l v.round v.author=y.digest:=by rw [voteAt,hat];rfl
   rw [e0] at h2
   have hyd:=hy.digest
   by_cases k1:y.digest=v.digest
   ·have e:giveE l v=4:=by rw [giveE,hat];simp only;rw [if_pos k1]
    rw [putV,if_neg (by omega),e]
    (refine (h2).mono ?_;rintro _ _ ⟨rfl,rfl⟩;(conv=>whnf))
    refine rdw ?_;repeat' ((with_reducible apply tw)<;>intro _)
    all_goals first|exact ⟨rfl,rfl⟩|exact absurd k1 (by assumption)
   ·have e:giveE l v=5:=by rw [giveE,hat];simp only;rw [if_neg k1]
    rw [putV,if_neg (by omega),e]
    (refine (h2).mono ?_;rintro _ _ ⟨rfl,rfl⟩;(conv=>whnf))
    refine rdw ?_;repeat' ((with_reducible apply tw)<;>intro _)
    all_goals first|exact ⟨rfl,rfl⟩|exact absurd (by assumption) k1|skip
    all_goals exact absurd (show y.digest>0 by omega) (by assumption)
 | none =>
   have e0:voteAt l v.round v.author=0:=by rw [voteAt,hat];rfl
   rw [e0] at h2
   have hvd:=hv.digest
   (refine (h2).mono ?_;rintro _ _ ⟨rfl,rfl⟩;(conv=>whnf))
   refine rdw ?_;repeat' ((with_reducible apply tw)<;>intro _)
   all_goals first|(rename_i k;exact absurd (show (0:Int)=v.digest from k) (by omega))|skip
   all_goals first|(rename_i k;exact absurd (show (0:Int)>0 from k) (by decide))|skip
   ·rename_i k
    replace k:((votesD l).length:Int)≥65536:=k
    have e:giveE l v=8:=by rw [giveE,hat];simp only;rw [if_pos (by omega)]
    rw [putV,if_neg (by omega),e]
    exact ⟨rfl,rfl⟩
   ·rename_i k
    replace k:¬((votesD l).length:Int)≥65536:=k
    have e:giveE l v=0:=by rw [giveE,hat];simp only;rw [if_neg (by omega)]
    rw [putV,if_pos e,e]
    refine loop_go ttOk zOk foOk (σ:=Nat) (giSt l v) (fun k=>k≤posV l v.round v.author) (fun k=>l.length - k) [0,3,7] ?_ ?_
    ·conv=>whnf
     exact ⟨0,rfl,rfl,Nat.zero_le _⟩
    ·intro i hii
     conv=>whnf
     ((with_reducible refine draw_pl ttOk zOk foOk mixedOk pl89x11 ?_ ?_);(focus kernel_rfl);(conv=>whnf))
     repeat' (first|(first|((with_reducible first|apply rd_intro|apply gd_and);(focus ((conv=>whnf)<;>first|rfl|(intro K hK;(conv=>whnf);first|exact hK|exact z_wrap (by omega) hK)));conv=>whnf)|((with_reducible apply z_wrap);(focus omega);conv=>whnf)|((with_reducible first|apply mt_dec|apply mt_eq|apply mt_ne|apply mt_not|apply mt_any)<;>(intro _;conv=>whnf)))|fail)
     ·rename_i k1
      replace k1:(i:Int)<((votesD l).length:Int):=k1
      refine Exists.elim (⟨_,List.getElem?_eq_getElem (by omega)⟩:∃ x,l[i]? = some x) fun x hx => ?_
      have hbf:=rBefore_ok x.round x.author v.round v.author
      have hii2:=posV_iff (r:=v.round) (a:=v.author) h.sorted hx
      rw [beforeV_iff] at hii2
      repeat' (first|(first|((with_reducible first|apply rd_intro|apply gd_and);(focus ((conv=>whnf)<;>first|rfl|(intro K hK;(conv=>whnf);first|exact hK|exact z_wrap (by omega) hK)));conv=>whnf)|((with_reducible apply z_wrap);(focus omega);conv=>whnf)|((with_reducible first|apply mt_dec|apply mt_eq|apply mt_ne|apply mt_not|apply mt_any)<;>(intro _;conv=>whnf)))|((with_reducible apply rd_intro);(focus (intro K hK;(conv=>whnf);exact ⟨by omega,x.cs,votesD_at hx,hK⟩));(conv=>whnf))|((with_reducible apply rd_intro);(focus (intro K hK;(conv=>whnf);exact ix_map hx (by first|rfl|omega) hK));(conv=>whnf))|((with_reducible apply rd_intro);(focus (intro K hK;(conv=>whnf);refine (hbf).mono ?_;rintro _ _ ⟨rfl,rfl⟩;(conv=>whnf);exact hK));(conv=>whnf))|((with_reducible apply gd_and);(focus ((conv=>whnf);intro K hK;(conv=>whnf);refine (hbf).mono ?_;rintro _ _ ⟨rfl,rfl⟩;(conv=>whnf);exact hK));(conv=>whnf))|(refine (hbf).mono ?_;rintro _ _ ⟨rfl,rfl⟩;(conv=>whnf))|fail)
      ·rename_i k2
       have k3:=hii2.1 k2
       exact ⟨i+1,rfl,rfl,(show i+1≤posV l v.round v.author by omega),(show l.length - (i+1)<l.length - i by omega)⟩
      ·rename_i k2
       have hie:i=posV l v.round v.author:=by
        have:¬i<posV l v.round v.author:=fun h=>k2 (hii2.2 h)
        omega
       subst hie
       clear hii
       have hs1:List.drop (Int.toNat 0) (List.take ((posV l v.round v.author:Int)).toNat (votesD l))=votesD (l.take (posV l v.round v.author)):=by
        rw [show (Int.toNat 0)=0 from rfl,List.drop_zero,show ((posV l v.round v.author:Int)).toNat=posV l v.round v.author from rfl]
        simp [votesD]
       have hcv:ACalls Tryz.prog 27 [.d (.sl 3 (List.drop (Int.toNat 0) (List.take ((posV l v.round v.author:Int)).toNat (votesD l))))] [] (fun av L=>av = .arr 0∧L=[.row 106 3 (votesD (l.take (posV l v.round v.author))) false]):=by
        rw [hs1]
        exact copyVotes_row (l.take (posV l v.round v.author)) (by simp;omega)
       have hs2:List.drop ((posV l v.round v.author:Int)).toNat (List.take ((votesD l).length:Int).toNat (votesD l))=votesD (l.drop (posV l v.round v.author)):=by
        rw [show ((posV l v.round v.author:Int)).toNat=posV l v.round v.author from rfl,show ((votesD l).length:Int).toNat=(votesD l).length from rfl,List.take_length]
        simp [votesD]
       have hl1:=votesD_length (l.take (posV l v.round v.author))
       have hl2:=votesD_length (l.drop (posV l v.round v.author))
       have hl3:(l.take (posV l v.round v.author)).length≤65536:=Nat.le_trans (List.length_take_le' ..) (by omega)
       have hl4:(l.drop (posV l v.round v.author)).length≤65536:=by rw [List.length_drop];omega
       have happ:votesD (l.take (posV l v.round v.author))++[[DV.int .i64 v.round,.int .i64 v.author,.int .i64 v.digest]]++votesD (l.drop (posV l v.round v.author))=votesD (insV l v):=by simp [insV,votesD,Vote.cs]
       (with_reducible refine draw_pl2 ttOk zOk foOk mixedOk plGi plGib ?_ ?_)
       focus kernel_rfl
       conv=>whnf
       refine rdw ?_;repeat' ((with_reducible apply tw)<;>intro _)
       ((with_reducible apply rd_intro);(focus (intro K hK;(conv=>whnf);exact ⟨by omega,by omega,by omega,hK⟩));(conv=>whnf))
       refine rdw ?_;repeat' ((with_reducible apply tw)<;>intro _)
       constructor
       all_goals
        conv=>whnf
        repeat' (first|((with_reducible apply gd_and);(focus ((conv=>whnf);intro K hK;(conv=>whnf);exact ⟨by omega,by omega,by omega,hK⟩));(conv=>whnf))|(first|((with_reducible first|apply rd_intro|apply gd_and);(focus ((conv=>whnf)<;>first|rfl|(intro K hK;(conv=>whnf);first|exact hK|exact z_wrap (by omega) hK)));conv=>whnf)|((with_reducible apply z_wrap);(focus omega);conv=>whnf)|((with_reducible first|apply mt_dec|apply mt_eq|apply mt_ne|apply mt_not|apply mt_any)<;>(intro _;conv=>whnf)))|fail)
        refine hcv.mono ?_
        rintro _ _ ⟨rfl,rfl⟩
        conv=>whnf
        repeat' (first|((with_reducible apply gd_and);(focus ((conv=>whnf);intro K hK;(conv=>whnf);exact ⟨by omega,by omega,by omega,hK⟩));(conv=>whnf))|(first|((with_reducible first|apply rd_intro|apply gd_and);(focus ((conv=>whnf)<;>first|rfl|(intro K hK;(conv=>whnf);first|exact hK|exact z_wrap (by omega) hK)));conv=>whnf)|((with_reducible apply z_wrap);(focus omega);conv=>whnf)|((with_reducible first|apply mt_dec|apply mt_eq|apply mt_ne|apply mt_not|apply mt_any)<;>(intro _;conv=>whnf)))|fail)
        refine ⟨by simp;omega,?_⟩
        conv=>whnf
        refine rdw ?_;repeat' ((with_reducible apply tw)<;>intro _)
        refine ⟨by omega,by omega,by omega,?_⟩
        conv=>whnf
        rw [hs2]
        refine ⟨by simp [votesD];omega,?_⟩
        conv=>whnf
        rw [happ]
        exact ⟨rfl,rfl⟩
     ·rename_i k1
      replace k1:¬(i:Int)<((votesD l).length:Int):=k1
      have hie:i=posV l v.round v.author:=by omega
      subst hie
      clear hii
      have hs1:List.drop (Int.toNat 0) (List.take ((posV l v.round v.author:Int)).toNat (votesD l))=votesD (l.take (posV l v.round v.author)):=by
       rw [show (Int.toNat 0)=0 from rfl,List.drop_zero,show ((posV l v.round v.author:Int)).toNat=posV l v.round v.author from rfl]
       simp [votesD]
      have hcv:ACalls Tryz.prog 27 [.d (.sl 3 (List.drop (Int.toNat 0) (List.take ((posV l v.round v.author:Int)).toNat (votesD l))))] [] (fun av L=>av = .arr 0∧L=[.row 106 3 (votesD (l.take (posV l v.round v.author))) false]):=by
       rw [hs1]
       exact copyVotes_row (l.take (posV l v.round v.author)) (by simp;omega)
      have hs2:List.drop ((posV l v.round v.author:Int)).toNat (List.take ((votesD l).length:Int).toNat (votesD l))=votesD (l.drop (posV l v.round v.author)):=by
       rw [show ((posV l v.round v.author:Int)).toNat=posV l v.round v.author from rfl,show ((votesD l).length:Int).toNat=(votesD l).length from rfl,List.take_length]
       simp [votesD]
      have hl1:=votesD_length (l.take (posV l v.round v.author))
      have hl2:=votesD_length (l.drop (posV l v.round v.author))
      have hl3:(l.take (posV l v.round v.author)).length≤65536:=Nat.le_trans (List.length_take_le' ..) (by omega)
      have hl4:(l.drop (posV l v.round v.author)).length≤65536:=by rw [List.length_drop];omega
      have happ:votesD (l.take (posV l v.round v.author))++[[DV.int .i64 v.round,.int .i64 v.author,.int .i64 v.digest]]++votesD (l.drop (posV l v.round v.author))=votesD (insV l v):=by simp [insV,votesD,Vote.cs]
      (with_reducible refine draw_pl2 ttOk zOk foOk mixedOk plGi plGib ?_ ?_)
      focus kernel_rfl
      conv=>whnf
      refine rdw ?_;repeat' ((with_reducible apply tw)<;>intro _)
      ((with_reducible apply rd_intro);(focus (intro K hK;(conv=>whnf);exact ⟨by omega,by omega,by omega,hK⟩));(conv=>whnf))
      refine rdw ?_;repeat' ((with_reducible apply tw)<;>intro _)
      constructor
      all_goals
       conv=>whnf
       repeat' (first|((with_reducible apply gd_and);(focus ((conv=>whnf);intro K hK;(conv=>whnf);exact ⟨by omega,by omega,by omega,hK⟩));(conv=>whnf))|(first|((with_reducible first|apply rd_intro|apply gd_and);(focus ((conv=>whnf)<;>first|rfl|(intro K hK;(conv=>whnf);first|exact hK|exact z_wrap (by omega) hK)));conv=>whnf)|((with_reducible apply z_wrap);(focus omega);conv=>whnf)|((with_reducible first|apply mt_dec|apply mt_eq|apply mt_ne|apply mt_not|apply mt_any)<;>(intro _;conv=>whnf)))|fail)
       refine hcv.mono ?_
       rintro _ _ ⟨rfl,rfl⟩
       conv=>whnf
       repeat' (first|((with_reducible apply gd_and);(focus ((conv=>whnf);intro K hK;(conv=>whnf);exact ⟨by omega,by omega,by omega,hK⟩));(conv=>whnf))|(first|((with_reducible first|apply rd_intro|apply gd_and);(focus ((conv=>whnf)<;>first|rfl|(intro K hK;(conv=>whnf);first|exact hK|exact z_wrap (by omega) hK)));conv=>whnf)|((with_reducible apply z_wrap);(focus omega);conv=>whnf)|((with_reducible first|apply mt_dec|apply mt_eq|apply mt_ne|apply mt_not|apply mt_any)<;>(intro _;conv=>whnf)))|fail)
       refine ⟨by simp;omega,?_⟩
       conv=>whnf
       refine rdw ?_;repeat' ((with_reducible apply tw)<;>intro _)
       refine ⟨by omega,by omega,by omega,?_⟩
       conv=>whnf
       rw [hs2]
       refine ⟨by simp [votesD];omega,?_⟩
       conv=>whnf
       rw [happ]
       exact ⟨rfl,rfl⟩
theorem giveE_all (l:List Vote) (v:Vote):giveE l v=0∨giveE l v=4∨giveE l v=5∨giveE l v=8:=by
 unfold giveE
 split
 ·split
  ·exact .inr (.inl rfl)
  ·exact .inr (.inr (.inl rfl))
 ·split
  ·exact .inr (.inr (.inr rfl))
  ·exact .inl rfl
open Classical in
noncomputable def proE (p:Prim) (h:Cert) (d:Int):Int:=if propC p h d then (if sayC p h then (if giveE p.votes ⟨h.round,p.id,d⟩=5∨giveE p.votes ⟨h.round,p.id,d⟩=8 then giveE p.votes ⟨h.round,p.id,d⟩ else 0) else 10) else 1
theorem proE_1 {p:Prim} {h:Cert} {d:Int} (k:¬propC p h d):proE p h d=1:=if_neg k
theorem proE_10 {p:Prim} {h:Cert} {d:Int} (k:propC p h d) (k2:¬sayC p h):proE p h d=10:=by rw [proE,if_pos k,if_neg k2]
theorem proE_g {p:Prim} {h:Cert} {d:Int} (k:propC p h d) (k2:sayC p h) (k3:giveE p.votes ⟨h.round,p.id,d⟩=5∨giveE p.votes ⟨h.round,p.id,d⟩=8):proE p h d=giveE p.votes ⟨h.round,p.id,d⟩:=by rw [proE,if_pos k,if_pos k2,if_pos k3]
theorem proE_0 {p:Prim} {h:Cert} {d:Int} (k:propC p h d) (k2:sayC p h) (k3:giveE p.votes ⟨h.round,p.id,d⟩≠5) (k4:giveE p.votes ⟨h.round,p.id,d⟩≠8):proE p h d=0:=by rw [proE,if_pos k,if_pos k2,if_neg (fun h=>h.elim k3 k4)]
def badP (p:Prim) (e:Int) (av:AV) (L:List AB):Prop:=av = .tup [.ptr 0 0,.arr 1,.d (.int .i64 e)]∧L=[.cells (p.cs.map AV.d++[.arr 2]),.row 3 1 [] false,.row 49 18 (msgsD []) false]
def pro20 (p:Prim) (h:Cert) (d:Int) (av:AV) (L:List AB):Prop :=
 (proE p h d=0∧propC p h d∧sayC p h∧av = .tup [.ptr 0 0,.d (.sl 1 (nums p.mine.bats)),.d (.int .i64 0)]∧∃ j,L=(sayP p h d).sj j (sayO p h d))∨(proE p h d≠0∧badP p (proE p h d) av L)
set_option maxHeartbeats 8000000 in
open Classical in
theorem proposed20_ok (p:Prim) (k1:May p) (hok:p.ok) (ht:p.tiny) (hr:p.dag.certs.length+p.late.length<60000) (h:Cert) (hf:fewL h) (hht:h.tiny) (d:Int) :
  ACalls Tryz.prog 48 [p.av,h.hav,.d (.int .i64 d)] [] (pro20 p h d):=by
 have hnn:=of_decide_eq_true k1.isn
 have hid:=k1.id
 have hcp:=copyPrim_ok p ht
 have h1:=rDigest_ok d
 have h2:=rHeader_ok h hf p.nodes
 have h3:=open20_ok p (by omega) ht.dag.2 k1.isn k1.round
 have h4:=parents20_ok p (by omega) k1.round
 rw [pars_end k1.dag.dig] at h4
 unfold pro20
 (refine acalls_go ttOk zOk foOk Tryz.func48 rfl Tryz.ntmps48 rfl true rfl ?_);(conv=>whnf)
 refine rdw ?_;repeat' ((with_reducible apply tw)<;>intro _)
 (refine (hcp).mono ?_;rintro _ _ ⟨rfl,rfl⟩;(conv=>whnf))
 refine rdw ?_;repeat' ((with_reducible apply tw)<;>intro _)
 refine h1.mono ?_
 rintro _ _ ⟨rfl,rfl⟩
 by_cases k2:1≤d∧d≤65536
 rotate_left
 ·rw [decide_eq_false k2]
  conv=>whnf
  refine rdw ?_;repeat' ((with_reducible apply tw)<;>intro _)
  rw [proE_1 fun hh=>k2 hh.dig]
  exact .inr ⟨by decide,rfl,rfl⟩
 rw [decide_eq_true k2]
 conv=>whnf
 refine rdw ?_;repeat' ((with_reducible apply tw)<;>intro _)
 refine h2.mono ?_
 rintro _ _ ⟨rfl,rfl⟩
 by_cases k3:okHead p.nodes h
 rotate_left
 ·rw [decide_eq_false k3]
  conv=>whnf
  refine rdw ?_;repeat' ((with_reducible apply tw)<;>intro _)
  rw [proE_1 fun hh=>k3 hh.head]
  exact .inr ⟨by decide,rfl,rfl⟩
 rw [decide_eq_true k3]
 conv=>whnf
 refine rdw ?_;repeat' ((with_reducible apply tw)<;>intro _)
 ·rename_i k4
  rw [proE_1 fun hh=>k4 hh.author]
  exact .inr ⟨by decide,rfl,rfl⟩
 rename_i k4
 replace k4:h.author=p.id:=k4
 have hC:propC p h d:=⟨k1,k2,k3,k4⟩
 have hrd:=k3.round
 have hpl:=k3.pars.1
 have h5:=eqNumbers_ok h.pars (sortI (parsF p)) (few_le 16 (by omega))
 have h6:=rGive_ok p.votes k1.votes ⟨h.round,p.id,d⟩ ⟨hrd,⟨hid.1,by have:=hid.2;have:=hnn.2;show p.id≤16;omega⟩,k2⟩
 have hcases:=giveE_all p.votes ⟨h.round,p.id,d⟩
 obtain ⟨e,he⟩:∃ e,giveE p.votes ⟨h.round,p.id,d⟩=e:=⟨_,rfl⟩
 rw [he] at h6 hcases
 have h7:=copyNumbers_ok p.mine.bats ht.mine.bats
 have h8:=copyHeader_ok h hht
 have h9:=all20_ok (propP p h d) ⟨by show 0≤p.nodes;omega,by show p.nodes≤16;omega⟩ [] (Nat.zero_le _) (askMsg (propP p h d)) ⟨Nat.zero_le _,⟨by have:=k3.bats.1;show h.bats.length≤3000;omega,by show h.pars.length≤3000;omega⟩,⟨Nat.zero_le _,Nat.zero_le _,Nat.zero_le _⟩,Nat.zero_le _,Nat.zero_le _⟩
 rw [List.nil_append] at h9
 have htl:=tellO_len (propP p h d) (askMsg (propP p h d)) [] (propP p h d).nodes.toNat
 have hpn:(propP p h d).nodes=p.nodes:=rfl
 have h10:=certified20_ok (propP p h d) (tellO (propP p h d) (askMsg (propP p h d)) [] (propP p h d).nodes.toNat) (by rw [hpn] at htl ⊢;omega) k1.isn (few_le 1 (Nat.le_refl _)) ⟨List.pairwise_singleton _ _,fun x hx=>by have e:=List.mem_singleton.1 (show x∈[p.id] from hx);subst e;exact hid⟩ ht.late.2 (fun k=>certMsg_small (show isN p.dag.nodes=true by rw [k1.same];exact k1.isn) (prop_certd k1 hr k3 k2 k).cert) (fun k=>⟨(prop_certd k1 hr k3 k2 k).cert,(prop_certd k1 hr k3 k2 k).tiny,(prop_certd k1 hr k3 k2 k).fine,(prop_certd k1 hr k3 k2 k).room,(prop_certd k1 hr k3 k2 k).ris⟩)
 ((with_reducible refine draw_pl ttOk zOk foOk mixedOk pl48x4 ?_ ?_);(focus kernel_rfl);(conv=>whnf))
 refine rdw ?_;repeat' ((with_reducible apply tw)<;>intro _)
 refine h3.mono ?_
 rintro _ _ ⟨rfl,rfl⟩
 cases k5:readyB p with
 | false =>
   conv=>whnf
   refine rdw ?_;repeat' ((with_reducible apply tw)<;>intro _)
   rw [proE_10 hC fun hh=>(by have:=hh.ready;rw [k5] at this;cases this)]
   exact .inr ⟨by decide,rfl,rfl⟩
 | true =>
   conv=>whnf
   refine rdw ?_;repeat' ((with_reducible apply tw)<;>intro _)
   ·rename_i k6
    rw [proE_10 hC fun hh=>k6 hh.round]
    exact .inr ⟨by decide,rfl,rfl⟩
   ·rename_i k6
    replace k6:h.round=p.round:=k6
    (refine (h4).mono ?_;rintro _ _ ⟨rfl,rfl⟩;(conv=>whnf))
    refine rdw ?_;repeat' ((with_reducible apply tw)<;>intro _)
    refine h5.mono ?_
    rintro _ _ ⟨rfl,rfl⟩
    by_cases k7:h.pars=sortI (parsF p)
    rotate_left
    ·rw [decide_eq_false k7]
     conv=>whnf
     refine rdw ?_;repeat' ((with_reducible apply tw)<;>intro _)
     rw [proE_10 hC fun hh=>k7 hh.pars]
     exact .inr ⟨by decide,rfl,rfl⟩
    rw [decide_eq_true k7]
    have hS:sayC p h:=⟨k5,k6,k7⟩
    conv=>whnf
    refine rdw ?_;repeat' ((with_reducible apply tw)<;>intro _)
    (refine (h6).mono ?_;rintro _ _ ⟨rfl,rfl⟩;(conv=>whnf))
    refine rdw ?_;repeat' ((with_reducible apply tw)<;>intro _)
    all_goals first
     | (rename_i k8 k9
        replace k8:e≠0:=k8
        replace k9:e≠4:=k9
        have g:proE p h d=e:=(proE_g hC hS (by rw [he];omega)).trans he
        rw [g]
        exact .inr ⟨by omega,rfl,rfl⟩)
     | skip
    all_goals
     have g04:e=0∨e=4:=by first|exact .inr (by assumption)|exact .inl (by assumption)
     have g5:e≠5:=by omega
     have g8:e≠8:=by omega
     have g0:=proE_0 hC hS (by rw [he];exact g5) (by rw [he];exact g8)
     rw [g0]
     (refine (h7).mono ?_;rintro _ _ ⟨rfl,rfl⟩;(conv=>whnf))
     refine rdw ?_;repeat' ((with_reducible apply tw)<;>intro _)
     (refine (h8).mono ?_;rintro _ _ ⟨rfl,rfl⟩;(conv=>whnf))
     refine rdw ?_;repeat' ((with_reducible apply tw)<;>intro _)
     refine acalls_via [(0,10)] rfl ?_
     conv=>whnf
     refine (acalls_nw h9 (.cons (.refl _) (.cons (.agg ?_) .nil))).mono ?_
     ·repeat (first|exact .nil|refine .cons (.refl _) ?_|refine .cons (.nils _ (by decide)) ?_)
     rintro _ _ ⟨rfl,j,rfl⟩
     cases j
     all_goals
      conv=>whnf
      refine rdw ?_;repeat' ((with_reducible apply tw)<;>intro _)
      refine h10.mono ?_
      rintro _ _ ⟨rfl,j,rfl⟩
      cases j
      all_goals
       conv=>whnf
       refine rdw ?_;repeat' ((with_reducible apply tw)<;>intro _)
       first
        | exact .inl ⟨rfl,hC,hS,rfl,false,rfl⟩
        | exact .inl ⟨rfl,hC,hS,rfl,true,rfl⟩
end Go.Proofs.YtolkmjfkkkiboaaGreat
open Go Go.Claim Go.Proofs
namespace Go.Proofs.YtolkmjfkkkiboaaGreat
open Go.Ab Go.RowKit Go.MapKept
attribute [local irreducible] ACalls AW ADraw Into fltB fnear
set_option maxRecDepth 100000
end Go.Proofs.YtolkmjfkkkiboaaGreat
set_option linter.unusedVariables false
set_option linter.unusedSimpArgs false
namespace Go.Proofs.YtolkmjfkkkiboaaGreat
open Go.Ab Go.RowKit Go.MapKept
attribute [local irreducible] ACalls AW ADraw Into fltB fnear
set_option maxRecDepth 100000
def Msg.cho (m:Msg):List DV:=[.int .i64 m.kind,.int .i64 m.src,.int .i64 m.dst,.int .i64 m.digest,.int .i64 m.ba,.int .i64 m.bn,.sl 4 (txsD m.txs),.int .i64 m.head.author,.int .i64 m.head.round,.slo 1 (nums m.head.bats),.slo 1 (nums m.head.pars),.int .i64 m.cert.author,.int .i64 m.cert.round,.sl 1 (nums m.cert.bats),.sl 1 (nums m.cert.pars),.int .i64 m.cert.digest,.sl 1 (nums m.cert.sigs),.sl 1 (nums m.digs)]
def Msg.aho (m:Msg):AV := .agg (m.cho.map AV.d)
theorem lend_havo {L:List AB} (h:Cert):lend2 L h.havo h.hav := .inr ⟨_,_,rfl,rfl,lendS_c (l1_int _) (lendS_c (l1_int _) (lendS_c (l1_up (up_nums _)) (lendS_c (l1_up (up_nums _)) lendS_n)))⟩
set_option maxHeartbeats 1000000 in
theorem sayO_ok (p:Prim) (out:List Msg) (ho:out.length≤1000000000) (to:Int) (m:Msg) (h1:m.head.tiny) (h2:m.cert.tiny):ACalls Tryz.prog 179 [.ptr 0 0,.d (.int .i64 to),m.aho] (p.st out) (fun av L=>av = .tup []∧L=p.st1 (out++[m.told p to])):=by
 have hml:=msgsD_length out
 (refine acalls_go ttOk zOk foOk Tryz.func179 rfl Tryz.ntmps179 rfl false rfl ?_);(conv=>whnf)
 refine rdw ?_;repeat' ((with_reducible apply tw)<;>intro _)
 ((with_reducible refine draw_pl ttOk zOk foOk mixedOk pl179x2 ?_ ?_);(focus kernel_rfl);(conv=>whnf))
 refine rdw ?_;repeat' ((with_reducible apply tw)<;>intro _)
 refine (ownO_ok m.head h1).mono ?_
 rintro _ _ ⟨rfl,rfl⟩
 conv=>whnf
 refine rdw ?_;repeat' ((with_reducible apply tw)<;>intro _)
 refine (ownCert_ok m.cert h2).mono ?_
 rintro _ _ ⟨rfl,rfl⟩
 conv=>whnf
 refine rdw ?_;repeat' ((with_reducible apply tw)<;>intro _)
 ((with_reducible refine draw_pl ttOk zOk foOk mixedOk pl179x3 ?_ ?_);(focus kernel_rfl);(conv=>whnf))
 refine rdw ?_;repeat' ((with_reducible apply tw)<;>intro _)
 refine ⟨by simp;omega,?_⟩
 conv=>whnf
 refine rdw ?_;repeat' ((with_reducible apply tw)<;>intro _)
 refine ⟨rfl,?_⟩
 rw [Prim.st1,show msgsD (out++[m.told p to])=msgsD out++[(m.told p to).cs] by simp [msgsD]]
 rfl
def teBho (p:Prim) (out:List Msg) (m:Msg) (j:Bool):List AB:=if j then [.cells (p.cs.map AV.d++[.arr 3]),.dead,.cells (m.cho.map AV.d),.row 49 18 (msgsD out) false] else [.cells (p.cs.map AV.d++[.arr 1]),.row 49 18 (msgsD out) false,.cells (m.cho.map AV.d)]
def teSho (p:Prim) (out:List Msg) (m:Msg) (not:List Int) (s:Bool×Nat):AF×List AB:=([(0,.ptr 0 0),(2,.d (.sl 1 (nums not))),(4,.ptr 2 0),(6,.d (.int .i64 ((s.2:Int)+1)))],teBho p (out++tellO p m not s.2) m s.1)
set_option maxHeartbeats 4000000 in
theorem tellO_ok (p:Prim) (hn:0≤p.nodes∧p.nodes≤16) (out:List Msg) (ho:out.length≤100000000) (m:Msg) (h1:m.head.tiny) (h2:m.cert.tiny) (not:List Int) (hnot:few not):ACalls Tryz.prog 145 [.ptr 0 0,m.aho,.d (.sl 1 (nums not))] (p.st out) (fun av L=>av = .tup []∧∃ j,L=p.sj j (out++tellO p m not p.nodes.toNat)):=by
 have hnl:=nums_length not
 (refine acalls_go ttOk zOk foOk Tryz.func145 rfl Tryz.ntmps145 rfl false rfl ?_);(conv=>whnf)
 refine scope_go ttOk zOk foOk (σ:=Bool×Nat) (teSho p out m not) (fun k s=>k=0∧s.2≤p.nodes.toNat) (fun _ s=>p.nodes.toNat - s.2) ?_ ?_
 ·rintro k rest hk ⟨j,q⟩ ⟨rfl,hq⟩
  have e:=Option.some.inj (show some _=some rest from hk)
  subst e
  clear hk
  replace hq:q≤p.nodes.toNat:=hq
  have htl:=tellO_len p m not q
  have hts:=tellO_succ p m not q
  cases j with
  | false =>
    conv=>whnf
    refine rdw ?_;repeat' ((with_reducible apply tw)<;>intro _)
    ·rename_i h
     replace h:p.nodes<(q:Int)+1:=h
     obtain rfl:q=p.nodes.toNat:=by omega
     exact ⟨rfl,false,rfl⟩
    ·rename_i hle hne
     replace hne:(q:Int)+1≠p.id:=hne
     replace hle:¬p.nodes<(q:Int)+1:=hle
     refine (contains_ok not hnot ((q:Int)+1)).mono ?_
     rintro _ _ ⟨rfl,rfl⟩
     by_cases hm:(q:Int)+1∈not
     ·rw [decide_eq_true hm]
      rw [if_neg (fun h=>h.2 hm),List.append_nil] at hts
      conv=>whnf
      refine rdw ?_;repeat' ((with_reducible apply tw)<;>intro _)
      refine into_of [0,2,4,6] ?_
      conv=>whnf
      exact ⟨(false,q+1),rfl,by simp only [teSho];rw [hts];rfl,⟨rfl,by show q+1≤_;omega⟩,by show _ - (q+1)<_ - q;omega⟩
     ·rw [decide_eq_false hm]
      rw [if_pos ⟨hne,hm⟩] at hts
      have hsay:=sayO_ok p (out++tellO p m not q) (by rw [List.length_append];omega) ((q:Int)+1) m h1 h2
      rw [List.append_assoc,← hts] at hsay
      conv=>whnf
      refine rdw ?_;repeat' ((with_reducible apply tw)<;>intro _)
      refine hsay.mono ?_
      rintro _ _ ⟨rfl,rfl⟩
      conv=>whnf
      refine rdw ?_;repeat' ((with_reducible apply tw)<;>intro _)
      refine into_of [0,2,4,6] ?_
      conv=>whnf
      exact ⟨(true,q+1),rfl,rfl,⟨rfl,by show q+1≤_;omega⟩,by show _ - (q+1)<_ - q;omega⟩
    ·rename_i hle hne
     replace hne:(q:Int)+1=p.id:=hne
     replace hle:¬p.nodes<(q:Int)+1:=hle
     rw [if_neg (fun h=>h.1 hne),List.append_nil] at hts
     refine into_of [0,2,4,6] ?_
     conv=>whnf
     exact ⟨(false,q+1),rfl,by simp only [teSho];rw [hts];rfl,⟨rfl,by show q+1≤_;omega⟩,by show _ - (q+1)<_ - q;omega⟩
  | true =>
    conv=>whnf
    refine rdw ?_;repeat' ((with_reducible apply tw)<;>intro _)
    ·rename_i h
     replace h:p.nodes<(q:Int)+1:=h
     obtain rfl:q=p.nodes.toNat:=by omega
     exact ⟨rfl,true,rfl⟩
    ·rename_i hle hne
     replace hne:(q:Int)+1≠p.id:=hne
     replace hle:¬p.nodes<(q:Int)+1:=hle
     refine (contains_ok not hnot ((q:Int)+1)).mono ?_
     rintro _ _ ⟨rfl,rfl⟩
     by_cases hm:(q:Int)+1∈not
     ·rw [decide_eq_true hm]
      rw [if_neg (fun h=>h.2 hm),List.append_nil] at hts
      conv=>whnf
      refine rdw ?_;repeat' ((with_reducible apply tw)<;>intro _)
      refine into_of [0,2,4,6] ?_
      conv=>whnf
      exact ⟨(true,q+1),rfl,by simp only [teSho];rw [hts];rfl,⟨rfl,by show q+1≤_;omega⟩,by show _ - (q+1)<_ - q;omega⟩
     ·rw [decide_eq_false hm]
      rw [if_pos ⟨hne,hm⟩] at hts
      have hsay:=sayO_ok p (out++tellO p m not q) (by rw [List.length_append];omega) ((q:Int)+1) m h1 h2
      rw [List.append_assoc,← hts] at hsay
      conv=>whnf
      refine rdw ?_;repeat' ((with_reducible apply tw)<;>intro _)
      refine hsay.mono ?_
      rintro _ _ ⟨rfl,rfl⟩
      conv=>whnf
      refine rdw ?_;repeat' ((with_reducible apply tw)<;>intro _)
      refine into_of [0,2,4,6] ?_
      conv=>whnf
      exact ⟨(true,q+1),rfl,rfl,⟨rfl,by show q+1≤_;omega⟩,by show _ - (q+1)<_ - q;omega⟩
    ·rename_i hle hne
     replace hne:(q:Int)+1=p.id:=hne
     replace hle:¬p.nodes<(q:Int)+1:=hle
     rw [if_neg (fun h=>h.1 hne),List.append_nil] at hts
     refine into_of [0,2,4,6] ?_
     conv=>whnf
     exact ⟨(true,q+1),rfl,by simp only [teSho];rw [hts];rfl,⟨rfl,by show q+1≤_;omega⟩,by show _ - (q+1)<_ - q;omega⟩
 ·intro pass
  conv=>whnf
  refine aw_at (σ:=Unit) (fun _=>teSho p out m not (false,0)) (fun _=>True) [0,2,4,6] ?_ ?_
  ·conv=>whnf
   exact ⟨(),rfl,by rw [teSho,show tellO p m not (false,0).2=[] from rfl,List.append_nil];rfl,trivial⟩
  ·intro _ _
   exact pass 0 _ rfl (false,0) ⟨rfl,Nat.zero_le _⟩
def errR (e:Int):AV := .tup [.agg zPrim,.arr 0,.arr 1,.d (.int .i64 e)]
def doneR (q:Prim):AV := .tup [q.av,.arr 0,.arr 1,.d (.int .i64 0)]
def rowsR (b:List Int) (o:List Msg):List AB:=[.row 3 1 (nums b) false,.row 49 18 (msgsD o) false]
def sayR (p:Prim) (h:Cert) (d:Int) (av:AV) (L:List AB):Prop :=
 (sayC p h∧giveE p.votes ⟨h.round,p.id,d⟩≠5∧giveE p.votes ⟨h.round,p.id,d⟩≠8∧av=doneR (sayP p h d)∧L=rowsR p.mine.bats (sayO p h d))∨(sayC p h∧(giveE p.votes ⟨h.round,p.id,d⟩=5∨giveE p.votes ⟨h.round,p.id,d⟩=8)∧av=errR (giveE p.votes ⟨h.round,p.id,d⟩)∧L=rowsR [] [])∨(¬sayC p h∧av=errR 10∧L=rowsR [] [])
def proR (p:Prim) (h:Cert) (d:Int) (av:AV) (L:List AB):Prop :=
 (propC p h d∧sayC p h∧giveE p.votes ⟨h.round,p.id,d⟩≠5∧giveE p.votes ⟨h.round,p.id,d⟩≠8∧av=doneR (sayP p h d)∧L=rowsR p.mine.bats (sayO p h d)) ∨
 (propC p h d∧sayC p h∧(giveE p.votes ⟨h.round,p.id,d⟩=5∨giveE p.votes ⟨h.round,p.id,d⟩=8)∧av=errR (giveE p.votes ⟨h.round,p.id,d⟩)∧L=rowsR [] []) ∨
 (propC p h d∧¬sayC p h∧av=errR 10∧L=rowsR [] [])∨(¬propC p h d∧av=errR 1∧L=rowsR [] [])
set_option maxHeartbeats 8000000 in
theorem sayO_full (p:Prim) (hm:May p) (hs:p.mine.sigs.length≤1099511627776) (hr:p.dag.certs.length+p.late.length<60000) (h:Cert) (hh:okHead p.nodes h) (hht:h.tiny) (d:Int) (hd:1≤d∧d≤65536) :
  ACalls Tryz.prog 93 [p.av,h.havo,.d (.int .i64 d)] [] (sayR p h d):=by
 have hnn:=of_decide_eq_true hm.isn
 have hid:=hm.id
 have hrd:=hh.round
 have h1:=ready_ok p hm.dag.fit hm.isn hm.round
 have h2:=headP_ok p hm.dag.fit hm.round (by have:=hm.dag.len;omega) [] few_nil
 have hpl:=hh.pars.1
 have h3:ACalls Tryz.prog 141 [.d (.slo 1 (nums h.pars)),.d (.sl 1 (nums (sortI (parsF p))))] [] (fun av L=>av = .d (.bool (decide (h.pars=sortI (parsF p))))∧L=[]):=acalls_lend (flat_bool _) ⟨_,_,rfl,.inl (l1_up (up_nums h.pars)),_,_,rfl,.inl (.inl ⟨_,rfl,rfl⟩),rfl⟩ (equal_ok h.pars (sortI (parsF p)) (few_le 16 (by omega)))
 have h4:=votePut_ok p.votes hm.votes ⟨h.round,p.id,d⟩ ⟨⟨by show 0≤h.round;omega,by show h.round<_;omega⟩,⟨by show 0≤p.id;omega,by show p.id<_;omega⟩⟩
 have ht:=hm.tiny hs
 have h5:=ownO_ok h hht
 have h6:=tellO_ok (propP p h d) ⟨by show 0≤p.nodes;omega,by show p.nodes≤16;omega⟩ [] (by decide) (askMsg (propP p h d)) (show (hdr h).tiny from ⟨hht.bats,hht.pars,tiny_nil⟩) cz0_tiny [] few_nil
 rw [List.nil_append] at h6
 have htl:=tellO_len (propP p h d) (askMsg (propP p h d)) [] (propP p h d).nodes.toNat
 have hpn:(propP p h d).nodes=p.nodes:=rfl
 have h7:=certified_ok (propP p h d) (tellO (propP p h d) (askMsg (propP p h d)) [] (propP p h d).nodes.toNat) (by rw [hpn] at htl ⊢;omega) hm.isn (fun k=>⟨(prop_certd hm hr hh hd k).cert,(prop_certd hm hr hh hd k).tiny,(prop_certd hm hr hh hd k).fine,(prop_certd hm hr hh hd k).room,(prop_certd hm hr hh hd k).ris⟩)
 unfold sayR
 (refine acalls_go ttOk zOk foOk Tryz.func93 rfl Tryz.ntmps93 rfl true rfl ?_);(conv=>whnf)
 ((with_reducible refine draw_pl ttOk zOk foOk mixedOk pl93x1 ?_ ?_);(focus kernel_rfl);(conv=>whnf))
 refine rdw ?_;repeat' ((with_reducible apply tw)<;>intro _)
 refine h1.mono ?_
 rintro _ _ ⟨rfl,rfl⟩
 cases k1:readyB p with
 | false =>
   conv=>whnf
   refine rdw ?_;repeat' ((with_reducible apply tw)<;>intro _)
   exact .inr (.inr ⟨fun hh=>(by have:=hh.ready;rw [k1] at this;cases this),rfl,rfl⟩)
 | true =>
   conv=>whnf
   refine rdw ?_;repeat' ((with_reducible apply tw)<;>intro _)
   ·rename_i k2
    exact .inr (.inr ⟨fun hh=>k2 hh.round,rfl,rfl⟩)
   ·rename_i k2
    (refine (h2).mono ?_;rintro _ _ ⟨rfl,rfl⟩;(conv=>whnf))
    refine rdw ?_;repeat' ((with_reducible apply tw)<;>intro _)
    refine h3.mono ?_
    rintro _ _ ⟨rfl,rfl⟩
    by_cases k3:h.pars=sortI (parsF p)
    ·rw [decide_eq_true k3]
     have hC:sayC p h:=⟨k1,k2,k3⟩
     conv=>whnf
     refine rdw ?_;repeat' ((with_reducible apply tw)<;>intro _)
     (refine (h4).mono ?_;rintro _ _ ⟨rfl,rfl⟩;(conv=>whnf))
     refine rdw ?_;repeat' ((with_reducible apply tw)<;>intro _)
     ·rename_i k4
      replace k4:giveE p.votes ⟨h.round,p.id,d⟩=5:=k4
      exact .inr (.inl ⟨hC,.inl k4,rfl,rfl⟩)
     ·rename_i k4 k5
      replace k5:giveE p.votes ⟨h.round,p.id,d⟩=8:=k5
      exact .inr (.inl ⟨hC,.inr k5,rfl,rfl⟩)
     ·rename_i k4 k5
      replace k4:giveE p.votes ⟨h.round,p.id,d⟩≠5:=k4
      replace k5:giveE p.votes ⟨h.round,p.id,d⟩≠8:=k5
      (refine (clone_ok p.mine.bats ht.mine.bats).mono ?_;rintro _ _ ⟨rfl,rfl⟩;(conv=>whnf))
      refine rdw ?_;repeat' ((with_reducible apply tw)<;>intro _)
      (with_reducible refine draw_pl ttOk zOk foOk mixedOk plSay8 ?_ ?_)
      focus kernel_rfl
      conv=>whnf
      refine rdw ?_;repeat' ((with_reducible apply tw)<;>intro _)
      (refine (h5).mono ?_;rintro _ _ ⟨rfl,rfl⟩;(conv=>whnf))
      refine rdw ?_;repeat' ((with_reducible apply tw)<;>intro _)
      refine (acalls_nw h6 (.cons (.refl _) (.cons (.agg ?_) (.cons (.refl _) .nil)))).mono ?_
      ·repeat (first|exact .nil|refine .cons (.refl _) ?_|refine .cons (.nils _ (by decide)) ?_)
      rintro _ _ ⟨rfl,j,rfl⟩
      cases j
      all_goals
       conv=>whnf
       refine rdw ?_;repeat' ((with_reducible apply tw)<;>intro _)
       refine h7.mono ?_
       rintro _ _ ⟨rfl,j,rfl⟩
       cases j
       all_goals
        conv=>whnf
        refine rdw ?_;repeat' ((with_reducible apply tw)<;>intro _)
        ((with_reducible refine draw_pl ttOk zOk foOk mixedOk pl93x11 ?_ ?_);(focus kernel_rfl);(conv=>whnf))
        refine rdw ?_;repeat' ((with_reducible apply tw)<;>intro _)
        exact .inl ⟨hC,k4,k5,rfl,rfl⟩
    ·rw [decide_eq_false k3]
     conv=>whnf
     refine rdw ?_;repeat' ((with_reducible apply tw)<;>intro _)
     exact .inr (.inr ⟨fun hh=>k3 hh.pars,rfl,rfl⟩)
set_option maxHeartbeats 8000000 in
open Classical in
theorem proposedO_row (p:Prim) (hok:p.ok) (hr:p.dag.certs.length+p.late.length<60000) (h:Cert) (hf:fewL h) (hht:h.tiny) (d:Int) :
  ACalls Tryz.prog 49 [p.avo,h.havo,.d (.int .i64 d)] [] (proR p h d):=by
 have h1:=primMayO_ok p hok
 have h2:ACalls Tryz.prog 92 [h.havo,.d (.int .i64 p.nodes)] [] (fun av L=>av = .d (.bool (decide (okHead p.nodes h)))∧L=[]):=acalls_lend (flat_bool _) ⟨_,_,rfl,lend_havo h,_,_,rfl,.inl (l1_int _),rfl⟩ (hMay_ok h hf p.nodes)
 have h3:=digest_ok d
 unfold proR
 (refine acalls_go ttOk zOk foOk Tryz.func49 rfl Tryz.ntmps49 rfl true rfl ?_);(conv=>whnf)
 refine rdw ?_;repeat' ((with_reducible apply tw)<;>intro _)
 refine h1.mono ?_
 rintro _ _ ⟨rfl,rfl⟩
 by_cases k1:May p
 ·rw [decide_eq_true k1]
  conv=>whnf
  refine rdw ?_;repeat' ((with_reducible apply tw)<;>intro _)
  refine h3.mono ?_
  rintro _ _ ⟨rfl,rfl⟩
  by_cases k2:1≤d∧d≤65536
  ·rw [decide_eq_true k2]
   conv=>whnf
   refine rdw ?_;repeat' ((with_reducible apply tw)<;>intro _)
   refine h2.mono ?_
   rintro _ _ ⟨rfl,rfl⟩
   by_cases k3:okHead p.nodes h
   ·rw [decide_eq_true k3]
    conv=>whnf
    refine rdw ?_;repeat' ((with_reducible apply tw)<;>intro _)
    ·rename_i k4
     exact .inr (.inr (.inr ⟨fun hh=>k4 hh.author,rfl,rfl⟩))
    ·rename_i k4
     have hC:propC p h d:=⟨k1,k2,k3,k4⟩
     have hown:=primOwnO_ok p (k1.tiny hok.sigs)
     have hsay:=sayO_full p k1 hok.sigs hr h k3 hht d k2
     ((with_reducible refine draw_pl ttOk zOk foOk mixedOk pl49x3 ?_ ?_);(focus kernel_rfl);(conv=>whnf))
     refine rdw ?_;repeat' ((with_reducible apply tw)<;>intro _)
     (refine (hown).mono ?_;rintro _ _ ⟨rfl,rfl⟩;(conv=>whnf))
     refine rdw ?_;repeat' ((with_reducible apply tw)<;>intro _)
     refine hsay.mono ?_
     rintro _ _ (⟨e1,e2,e3,rfl,rfl⟩|⟨e1,e2,rfl,rfl⟩|⟨e1,rfl,rfl⟩)
     ·conv=>whnf
      refine rdw ?_;repeat' ((with_reducible apply tw)<;>intro _)
      exact .inl ⟨hC,e1,e2,e3,rfl,rfl⟩
     ·conv=>whnf
      refine rdw ?_;repeat' ((with_reducible apply tw)<;>intro _)
      exact .inr (.inl ⟨hC,e1,e2,rfl,rfl⟩)
     ·conv=>whnf
      refine rdw ?_;repeat' ((with_reducible apply tw)<;>intro _)
      exact .inr (.inr (.inl ⟨hC,e1,rfl,rfl⟩))
   ·rw [decide_eq_false k3]
    conv=>whnf
    refine rdw ?_;repeat' ((with_reducible apply tw)<;>intro _)
    exact .inr (.inr (.inr ⟨fun hh=>k3 hh.head,rfl,rfl⟩))
  ·rw [decide_eq_false k2]
   conv=>whnf
   refine rdw ?_;repeat' ((with_reducible apply tw)<;>intro _)
   exact .inr (.inr (.inr ⟨fun hh=>k2 hh.dig,rfl,rfl⟩))
 ·rw [decide_eq_false k1]
  conv=>whnf
  refine rdw ?_;repeat' ((with_reducible apply tw)<;>intro _)
  exact .inr (.inr (.inr ⟨fun hh=>k1 hh.may,rfl,rfl⟩))
attribute [local irreducible] SL
end Go.Proofs.YtolkmjfkkkiboaaGreat
