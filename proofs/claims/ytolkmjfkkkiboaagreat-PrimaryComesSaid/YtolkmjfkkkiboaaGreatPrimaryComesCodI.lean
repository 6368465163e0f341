/- PrimaryComes: contracts. -/
import Derived.Test.YtolkmjfkkkiboaaGreatPrimaryComesCodH
import Derived.Shelf.Spec.SlicesInsertGrow
set_option linter.unusedVariables false
set_option linter.unusedSimpArgs false
namespace Go.Proofs.YtolkmjfkkkiboaaGreat
open Go Go.Ab Go.RowKit Go.Lib Go.Proofs Go.Shelf
set_option maxRecDepth 100000
end Go.Proofs.YtolkmjfkkkiboaaGreat
namespace Go.Proofs.YtolkmjfkkkiboaaGreat
open Go.Ab Go.RowKit Go.MapKept
attribute [local irreducible] ACalls AW ADraw Into fltB fnear
set_option maxRecDepth 100000
def Vote.av (v:Vote):AV := .agg (v.cs.map AV.d)
theorem voteOf_ok (v:Vote):ACalls Tryz.prog 129 [v.av] [] (fun av L=>av = .d (plb v.round v.author)∧L=[]):=by
 (refine acalls_go ttOk zOk foOk Tryz.func129 rfl Tryz.ntmps129 rfl false rfl ?_);(conv=>whnf)
 refine rdw ?_;repeat' ((with_reducible apply tw)<;>intro _)
 refine (placeOf_ok v.round v.author).mono ?_
 rintro _ _ ⟨rfl,rfl⟩
 conv=>whnf
 exact ⟨rfl,rfl⟩
theorem bsearchV_nil (p:DV):ACalls Tryz.prog 219 [.d (.sl 3 []),.d p,.fn 220 []] [] (fun av L=>av = .tup [.d (.int .i64 0),.d (.bool false)]∧L=[]):=by
 (refine acalls_go ttOk zOk foOk Tryz.func219 rfl Tryz.ntmps219 rfl false rfl ?_);(conv=>whnf)
 refine loop_go ttOk zOk foOk (σ:=Unit) (fun _=>([(0,.d (.sl 3 [])),(8,.d (.int .i64 0)),(9,.d (.int .i64 0)),(10,.d (.int .i64 0))],[])) (fun _=>True) (fun _=>0) [0,8,9,10] ?_ ?_
 ·conv=>whnf
  exact ⟨(),rfl,rfl,trivial⟩
 ·rintro _ -
  conv=>whnf
  refine rdw ?_;repeat' ((with_reducible apply tw)<;>intro _)
  exact ⟨rfl,rfl⟩
theorem findV_nil (r a:Int):ACalls Tryz.prog 177 [.d (.sl 3 []),.d (plb r a)] [] (fun av L=>av = .tup [.d (.int .i64 0),.d (.bool false)]∧L=[]):=by
 have h:=bsearchV_nil (plb r a)
 (refine acalls_go ttOk zOk foOk Tryz.func177 rfl Tryz.ntmps177 rfl false rfl ?_);(conv=>whnf)
 refine h.mono ?_
 rintro _ _ ⟨rfl,rfl⟩
 conv=>whnf
 exact ⟨rfl,rfl⟩
theorem insertV_nil (v:Vote):ACalls Tryz.prog 178 [.arr 0,.d (.int .i64 0),.d (.sl 3 (votesD [v]))] [.row 106 3 [] false] (fun av L=>av = .d (.sl 3 (votesD [v]))∧L=[.dead]):=by
 (refine acalls_go ttOk zOk foOk Tryz.func178 rfl Tryz.ntmps178 rfl false rfl ?_);(conv=>whnf)
 refine rdw ?_;repeat' ((with_reducible apply tw)<;>intro _)
 refine Or.inl ?_
 conv=>whnf
 refine ⟨by decide,by decide,by decide,?_⟩
 conv=>whnf
 refine rdw ?_;repeat' ((with_reducible apply tw)<;>intro _)
 refine ⟨by show (0+1) * 24≤140737488355328;decide,?_⟩
 conv=>whnf
 refine rdw ?_;repeat' ((with_reducible apply tw)<;>intro _)
 exact ⟨rfl,rfl⟩
theorem votePut_nil (v:Vote):ACalls Tryz.prog 142 [.d (.sl 3 []),v.av] [] (fun av L=>av = .tup [.d (.sl 3 (votesD [v])),.d (.int .i64 0)]∧L=[]):=by
 have h1:=voteOf_ok v
 have h2:=findV_nil v.round v.author
 have h3:=cloneV_row [] (by simp)
 have h4:=insertV_nil v
 (refine acalls_go ttOk zOk foOk Tryz.func142 rfl Tryz.ntmps142 rfl false rfl ?_);(conv=>whnf)
 refine rdw ?_;repeat' ((with_reducible apply tw)<;>intro _)
 refine ACalls.mono (post:=fun av L=>av = .d (plb v.round v.author)∧L=[]) h1 ?_
 rintro _ _ ⟨rfl,rfl⟩
 conv=>whnf
 refine rdw ?_;repeat' ((with_reducible apply tw)<;>intro _)
 refine h2.mono ?_
 rintro _ _ ⟨rfl,rfl⟩
 conv=>whnf
 refine rdw ?_;repeat' ((with_reducible apply tw)<;>intro _)
 ((with_reducible refine draw_pl ttOk zOk foOk mixedOk pl142x2 ?_ ?_);(focus kernel_rfl);(conv=>whnf))
 refine rdw ?_;repeat' ((with_reducible apply tw)<;>intro _)
 ((with_reducible refine draw_pl ttOk zOk foOk mixedOk pl142x8 ?_ ?_);(focus kernel_rfl);(conv=>whnf))
 refine rdw ?_;repeat' ((with_reducible apply tw)<;>intro _)
 refine h3.mono ?_
 rintro _ _ ⟨rfl,rfl⟩
 conv=>whnf
 refine rdw ?_;repeat' ((with_reducible apply tw)<;>intro _)
 (refine Or.inr ?_;(conv=>whnf))
 refine h4.mono ?_
 rintro _ _ ⟨rfl,rfl⟩
 conv=>whnf
 refine rdw ?_;repeat' ((with_reducible apply tw)<;>intro _)
 exact ⟨rfl,rfl⟩
theorem votesD_at {l:List Vote} {k:Nat} {c:Vote} (h:l[k]? = some c):(votesD l)[k]? = some c.cs:=by simp [votesD,h]
def Vote.before (c:Vote) (r a:Int):Bool:=decide (c.round<r∨c.round=r∧c.author<a)
def posV (l:List Vote) (r a:Int):Nat:=(l.filter fun c=>c.before r a).length
def sortedV (l:List Vote):Prop:=l.Pairwise fun x y=>x.before y.round y.author=true
def atV (l:List Vote) (r a:Int):Option Vote:=l.find? fun c=>decide (c.round=r∧c.author=a)
theorem beforeV_iff {c:Vote} {r a:Int}:c.before r a=true↔c.round<r∨c.round=r∧c.author<a:=by simp [Vote.before]
theorem posV_iff {r a:Int}:∀ {l:List Vote} {m:Nat} {c:Vote},sortedV l→l[m]? = some c→(c.before r a=true↔m<posV l r a)
 | [],m,c,_,h=>by simp at h
 | x :: t,m,c,hs,h=>by
   have hs':=List.pairwise_cons.1 hs
   cases hx:x.before r a with
   | true =>
     have hp:posV (x :: t) r a=posV t r a+1:=by simp [posV,hx]
     cases m with
     | zero =>
       simp only [List.getElem?_cons_zero,Option.some.injEq] at h
       subst h
       rw [hp];simp [hx]
     | succ m =>
       rw [List.getElem?_cons_succ] at h
       rw [posV_iff hs'.2 h,hp];omega
   | false =>
     have hall:∀ y∈t,y.before r a=false:=by
      intro y hy
      have h1:=beforeV_iff.1 (hs'.1 y hy)
      cases hb:y.before r a with
      | false=>rfl
      | true =>
        have h2:=beforeV_iff.1 hb
        have:x.before r a=true:=beforeV_iff.2 (by omega)
        rw [hx] at this;cases this
     have hp:posV (x :: t) r a=0:=by
      unfold posV
      rw [List.filter_eq_nil_iff.2]
      ·rfl
      ·intro y hy
       rcases List.mem_cons.1 hy with rfl|hy
       ·simp [hx]
       ·simp [hall y hy]
     have hc:c.before r a=false:=by
      cases m with
      | zero =>
        simp only [List.getElem?_cons_zero,Option.some.injEq] at h
        subst h;exact hx
      | succ m =>
        rw [List.getElem?_cons_succ] at h
        exact hall c (List.mem_of_getElem? h)
     rw [hp,hc];simp
def giveE (l:List Vote) (v:Vote):Int:=match atV l v.round v.author with
 | some y=>if y.digest=v.digest then 4 else 5
 | none=>if l.length=65536 then 8 else 0
def insV (l:List Vote) (v:Vote):List Vote:=l.take (posV l v.round v.author)++v :: l.drop (posV l v.round v.author)
def putV (l:List Vote) (v:Vote):List Vote:=if giveE l v=0 then insV l v else l
structure okVote (v:Vote):Prop where
 round:1≤v.round∧v.round≤1099511627776
 author:1≤v.author∧v.author≤16
 digest:1≤v.digest∧v.digest≤65536
structure okVotes (l:List Vote):Prop where
 len:l.length≤65536
 votes:∀ v∈l,okVote v
 sorted:sortedV l
theorem okVote.fit {v:Vote} (h:okVote v):isF v.round∧isF v.author:=by
 have h1:=h.round
 have h2:=h.author
 exact ⟨⟨by omega,by omega⟩,⟨by omega,by omega⟩⟩
def voteAt (l:List Vote) (r a:Int):Int:=((atV l r a).map (·.digest)).getD 0
theorem placeIs_ok (r a:Int):ACalls Tryz.prog 172 [.d (.int .i64 r),.d (.int .i64 a)] [] (fun av L=>av = .d (.bool (decide (0≤r∧r≤1099511627776∧1≤a∧a≤16)))∧L=[]):=by
 (refine acalls_go ttOk zOk foOk Tryz.func172 rfl Tryz.ntmps172 rfl false rfl ?_);(conv=>whnf)
 refine rdw ?_;repeat' ((with_reducible apply tw)<;>intro _)
 ·rename_i h1 h2 h3
  exact ⟨boolEq (by simp;omega),rfl⟩
 all_goals exact ⟨by rw [decide_eq_false (by omega)];rfl,rfl⟩
open Classical in
theorem voteMay1_ok (v:Vote):ACalls Tryz.prog 127 [v.av] [] (fun av L=>av = .d (.bool (decide (okVote v)))∧L=[]):=by
 (refine acalls_go ttOk zOk foOk Tryz.func127 rfl Tryz.ntmps127 rfl false rfl ?_);(conv=>whnf)
 refine rdw ?_;repeat' ((with_reducible apply tw)<;>intro _)
 ·rename_i h1
  refine (placeIs_ok v.round v.author).mono ?_
  rintro _ _ ⟨rfl,rfl⟩
  conv=>whnf
  refine rdw ?_;repeat' ((with_reducible apply tw)<;>intro _)
  ·rename_i h2
   refine (digest_ok v.digest).mono ?_
   rintro _ _ ⟨rfl,rfl⟩
   conv=>whnf
   refine ⟨boolEq ?_,rfl⟩
   simp only [decide_eq_true_iff]
   exact ⟨fun h=>⟨by omega,by omega,h⟩,fun h=>h.digest⟩
  ·rename_i h2
   exact ⟨by rw [decide_eq_false (fun h=>h2 (by have:=h.round;have:=h.author;omega))];rfl,rfl⟩
 ·rename_i h1
  exact ⟨by rw [decide_eq_false (fun h=>h1 (by have:=h.round;omega))];rfl,rfl⟩
structure mayV (l:List Vote) (j:Nat):Prop where
 votes:∀ v∈l.take j,okVote v
 sorted:sortedV (l.take j)
theorem mayV_succ {l:List Vote} {j:Nat} {v:Vote} (hv:l[j]? = some v) (h:mayV l j) (h1:okVote v) (h2:∀ y,0<j→l[j - 1]? = some y→y.before v.round v.author=true):mayV l (j+1):=by
 refine ⟨fun x hx => ?_,?_⟩
 ·rw [List.take_add_one,hv] at hx
  rcases List.mem_append.1 hx with hx|hx
  ·exact h.votes x hx
  ·simp at hx;subst hx;exact h1
 ·rw [sortedV,List.take_add_one,hv]
  refine List.pairwise_append.2 ⟨h.sorted,by simp,fun x hx y hy => ?_⟩
  simp at hy
  subst hy
  obtain ⟨i,hi,rfl⟩:=List.mem_take_iff_getElem.1 hx
  have hjl:=(List.getElem?_eq_some_iff.1 hv).1
  have hb:=h2 l[j - 1] (by omega) (List.getElem?_eq_getElem (by omega))
  by_cases hij:i=j - 1
  ·subst hij;exact hb
  ·have hs:=List.pairwise_iff_getElem.1 h.sorted i (j - 1) (by simp;omega) (by simp;omega) (by omega)
   simp only [List.getElem_take] at hs
   have hs:=beforeV_iff.1 hs
   have hb:=beforeV_iff.1 hb
   exact beforeV_iff.2 (by omega)
set_option maxHeartbeats 2000000 in
open Classical in
theorem voteMay_full (l:List Vote) (hl:few l):ACalls Tryz.prog 74 [.d (.sl 3 (votesD l))] [] (fun av L=>av = .d (.bool (decide (okVotes l)))∧L=[]):=by
 have hcl:=votesD_length l
 unfold few at hl
 (refine acalls_go ttOk zOk foOk Tryz.func74 rfl Tryz.ntmps74 rfl false rfl ?_);(conv=>whnf)
 refine scope_go ttOk zOk foOk (σ:=Nat) (fun j=>([(0,.d (.sl 3 (votesD l))),(3,.d (.int .i64 j))],[])) (fun k j=>(k=1∧j≤l.length∧l.length≤65536∧mayV l j)∨(k=0∧¬okVotes l)) (fun k j=>if k=0 then 0 else l.length - j+1) ?_ ?_
 ·rintro k rest hk j (⟨rfl,hj,hlen,hm⟩|⟨rfl,hno⟩)
  ·have e:=Option.some.inj (show some _=some rest from hk)
   subst e
   clear hk
   conv=>whnf
   refine rdw ?_;repeat' ((with_reducible apply tw)<;>intro _)
   ·rename_i h
    replace h:(j:Int)=((votesD l).length:Int):=h
    rw [hcl] at h
    obtain rfl:j=l.length:=by omega
    have:okVotes l:=⟨hlen,fun v hv=>hm.votes v (by rwa [List.take_length]),by have:=hm.sorted;rwa [List.take_length] at this⟩
    exact ⟨by rw [decide_eq_true this];rfl,rfl⟩
   ·rename_i h
    replace h:¬(j:Int)=((votesD l).length:Int):=h
    rw [hcl] at h
    refine Exists.elim (⟨_,List.getElem?_eq_getElem (by omega)⟩:∃ v,l[j]? = some v) fun v hv => ?_
    have hjl:=(List.getElem?_eq_some_iff.1 hv).1
    ((with_reducible refine draw_pl ttOk zOk foOk mixedOk pl74x5 ?_ ?_);(focus kernel_rfl);(conv=>whnf))
    refine rdw ?_;repeat' ((with_reducible apply tw)<;>intro _)
    ((with_reducible apply rd_intro);(focus (intro K hK;(conv=>whnf);exact ix_map hv (by first|rfl|omega) hK));(conv=>whnf))
    refine rdw ?_;repeat' ((with_reducible apply tw)<;>intro _)
    refine (voteMay1_ok v).mono ?_
    rintro _ _ ⟨rfl,rfl⟩
    by_cases hov:okVote v
    ·rw [decide_eq_true hov]
     conv=>whnf
     refine rdw ?_;repeat' ((with_reducible apply tw)<;>intro _)
     ·rename_i h0
      replace h0:(j:Int)=0:=h0
      refine into_of [0,3] ?_
      conv=>whnf
      exact ⟨j+1,rfl,rfl,.inl ⟨rfl,by omega,hlen,mayV_succ hv hm hov (fun y h1 _=>by omega)⟩,by simp;omega⟩
     ·rename_i h0
      replace h0:¬(j:Int)=0:=h0
      refine Exists.elim (⟨_,List.getElem?_eq_getElem (by omega)⟩:∃ v,l[j - 1]? = some v) fun y hy => ?_
      ((with_reducible apply rd_intro);(focus (intro K hK;(conv=>whnf);exact ⟨by omega,y.cs,(by rw [show ((j:Int) - 1).toNat=j - 1 by omega];exact votesD_at hy),hK⟩));(conv=>whnf))
      refine rdw ?_;repeat' ((with_reducible apply tw)<;>intro _)
      ((with_reducible apply rd_intro);(focus (intro K hK;(conv=>whnf);exact ⟨by omega,v.cs,votesD_at hv,hK⟩));(conv=>whnf))
      repeat' (first|(first|((with_reducible first|apply rd_intro|apply gd_and);(focus ((conv=>whnf)<;>first|rfl|(intro K hK;(conv=>whnf);first|exact hK|exact z_wrap (by omega) hK)));conv=>whnf)|((with_reducible apply z_wrap);(focus omega);conv=>whnf)|((with_reducible first|apply mt_dec|apply mt_eq|apply mt_ne|apply mt_not|apply mt_any)<;>(intro _;conv=>whnf)))|((with_reducible apply gd_and);(focus ((conv=>whnf);intro K hK;(conv=>whnf);exact ⟨by omega,y.cs,(by rw [show ((j:Int) - 1).toNat=j - 1 by omega];exact votesD_at hy),hK⟩));(conv=>whnf))|((with_reducible apply gd_and);(focus ((conv=>whnf);intro K hK;(conv=>whnf);exact ⟨by omega,v.cs,votesD_at hv,hK⟩));(conv=>whnf)))
      refine (voteOf_ok y).mono ?_
      rintro _ _ ⟨rfl,rfl⟩
      conv=>whnf
      repeat' (first|(first|((with_reducible first|apply rd_intro|apply gd_and);(focus ((conv=>whnf)<;>first|rfl|(intro K hK;(conv=>whnf);first|exact hK|exact z_wrap (by omega) hK)));conv=>whnf)|((with_reducible apply z_wrap);(focus omega);conv=>whnf)|((with_reducible first|apply mt_dec|apply mt_eq|apply mt_ne|apply mt_not|apply mt_any)<;>(intro _;conv=>whnf)))|((with_reducible apply gd_and);(focus ((conv=>whnf);intro K hK;(conv=>whnf);exact ⟨by omega,y.cs,(by rw [show ((j:Int) - 1).toNat=j - 1 by omega];exact votesD_at hy),hK⟩));(conv=>whnf))|((with_reducible apply gd_and);(focus ((conv=>whnf);intro K hK;(conv=>whnf);exact ⟨by omega,v.cs,votesD_at hv,hK⟩));(conv=>whnf)))
      refine (voteOf_ok v).mono ?_
      rintro _ _ ⟨rfl,rfl⟩
      conv=>whnf
      refine rdw ?_;repeat' ((with_reducible apply tw)<;>intro _)
      have hoy:okVote y:=hm.votes y (List.mem_of_getElem? (by rw [List.getElem?_take,if_pos (show j - 1<j by omega)];exact hy))
      refine (placeLess_ok hoy.fit.1 hoy.fit.2 hov.fit.1 hov.fit.2).mono ?_
      rintro _ _ ⟨rfl,rfl⟩
      conv=>whnf
      refine rdw ?_;repeat' ((with_reducible apply tw)<;>intro _)
      ·rename_i hb
       refine into_of [0,3] ?_
       conv=>whnf
       exact ⟨j+1,rfl,rfl,.inl ⟨rfl,by omega,hlen,mayV_succ hv hm hov (fun y' _ hy'=>by rw [hy] at hy';cases hy';exact beforeV_iff.2 hb)⟩,by simp;omega⟩
      ·rename_i hb
       have hno:¬okVotes l:=fun hh=>by
        have:=List.pairwise_iff_getElem.1 hh.sorted (j - 1) j (by omega) (by omega) (by omega)
        rw [(List.getElem?_eq_some_iff.1 hv).2,(List.getElem?_eq_some_iff.1 hy).2] at this
        exact hb (beforeV_iff.1 this)
       refine AW_go ttOk zOk foOk ?_
       conv=>whnf
       refine rdw ?_;repeat' ((with_reducible apply tw)<;>intro _)
       exact ⟨by rw [decide_eq_false hno];rfl,rfl⟩
    ·rw [decide_eq_false hov]
     conv=>whnf
     refine rdw ?_;repeat' ((with_reducible apply tw)<;>intro _)
     refine AW_go ttOk zOk foOk ?_
     conv=>whnf
     refine rdw ?_;repeat' ((with_reducible apply tw)<;>intro _)
     exact ⟨by rw [decide_eq_false (fun hh:okVotes l=>hov (hh.votes v (List.mem_of_getElem? hv)))];rfl,rfl⟩
  ·have e:=Option.some.inj (show some _=some rest from hk)
   subst e
   clear hk
   conv=>whnf
   refine rdw ?_;repeat' ((with_reducible apply tw)<;>intro _)
   exact ⟨by rw [decide_eq_false hno];rfl,rfl⟩
 ·intro pass
  conv=>whnf
  refine rdw ?_;repeat' ((with_reducible apply tw)<;>intro _)
  ·rename_i h
   refine into_of [0,3] ?_
   conv=>whnf
   exact ⟨0,rfl,rfl,.inr ⟨rfl,fun hh=>by have:=hh.len;omega⟩⟩
  ·rename_i h
   refine aw_at (σ:=Unit) (fun _=>([(0,.d (.sl 3 (votesD l))),(3,.d (.int .i64 (0:Nat)))],[])) (fun _=>True) [0,3] ?_ ?_
   ·conv=>whnf
    exact ⟨(),rfl,rfl,trivial⟩
   ·intro _ _
    exact pass 1 _ rfl 0 (.inl ⟨rfl,Nat.zero_le _,by omega,⟨by simp,by simp [sortedV]⟩⟩)
structure okMine (p:Prim):Prop where
 none:p.dig=0→p.mine.author=0∧p.mine.round=0∧p.mine.bats=[]∧p.mine.pars=[]∧p.acks=[]
 dig:p.dig≠0→1≤p.dig∧p.dig≤65536
 head:p.dig≠0→okHead p.nodes p.mine
 author:p.dig≠0→p.mine.author=p.id
 round:p.dig≠0→p.mine.round=p.said
 acks:p.dig≠0→riseB p.acks 1 p.nodes
 less:p.dig≠0→(p.acks.length:Int)<quo p.nodes
structure okLate (n:Int) (l:List Cert):Prop where
 len:l.length≤256
 ris:risingC l
 certs:∀ c∈l,okCert n c
structure May (p:Prim):Prop where
 isn:isN p.nodes=true
 id:1≤p.id∧p.id≤p.nodes
 round:1≤p.round∧p.round≤1099511627776
 age:0≤p.age∧p.age≤1099511627776
 said:0≤p.said∧p.said≤p.round
 mine:okMine p
 votes:okVotes p.votes
 dag:Valid p.dag
 same:p.dag.nodes=p.nodes
 late:okLate p.nodes p.late
structure Prim.ok (p:Prim):Prop where
 mine:p.mine.ok
 sigs:p.mine.sigs.length≤1099511627776
 acks:few p.acks
 votes:few p.votes
 dag:p.dag.ok
 late:few p.late∧∀ c∈p.late,c.ok
set_option maxHeartbeats 2000000 in
open Classical in
theorem mine_full (p:Prim) (hok:p.ok) (hn:isN p.nodes=true):ACalls Tryz.prog 73 [p.av] [] (fun av L=>av = .d (.bool (decide (okMine p)))∧L=[]):=by
 have hb:=hok.mine.bats.1
 have hp:=hok.mine.pars.1
 have ha:=hok.acks
 have hbl:=nums_length p.mine.bats
 have hpl:=nums_length p.mine.pars
 have hal:=nums_length p.acks
 have hnn:=of_decide_eq_true hn
 unfold few at hb hp ha
 (refine acalls_go ttOk zOk foOk Tryz.func73 rfl Tryz.ntmps73 rfl false rfl ?_);(conv=>whnf)
 refine rdw ?_;repeat' ((with_reducible apply tw)<;>intro _)
 ·rename_i h0 h1 h2
  refine ⟨boolEq ?_,rfl⟩
  simp only [beq_iff_eq,decide_eq_true_iff]
  constructor
  ·intro h
   have e1:p.mine.bats=[]:=List.eq_nil_of_length_eq_zero (by omega)
   have e2:p.mine.pars=[]:=List.eq_nil_of_length_eq_zero (by omega)
   have e3:p.acks=[]:=List.eq_nil_of_length_eq_zero (by omega)
   exact ⟨fun _=>⟨h1,h2,e1,e2,e3⟩,fun h=>absurd h0 h,fun h=>absurd h0 h,fun h=>absurd h0 h,fun h=>absurd h0 h,fun h=>absurd h0 h,fun h=>absurd h0 h⟩
  ·intro h
   obtain ⟨_,_,e1,e2,e3⟩:=h.none h0
   rw [e1] at hbl
   rw [e2] at hpl
   rw [e3] at hal
   simp at hbl hpl hal
   simp [e1,e2,e3,nums]
 ·rename_i h0 h1 h2
  exact ⟨by rw [decide_eq_false (fun h:okMine p=>h2 (h.none h0).2.1)];rfl,rfl⟩
 ·rename_i h0 h1
  exact ⟨by rw [decide_eq_false (fun h:okMine p=>h1 (h.none h0).1)];rfl,rfl⟩
 ·rename_i h0
  ((with_reducible refine draw_pl ttOk zOk foOk mixedOk pl73x3 ?_ ?_);(focus kernel_rfl);(conv=>whnf))
  refine rdw ?_;repeat' ((with_reducible apply tw)<;>intro _)
  (refine (digest_ok p.dig).mono ?_;rintro _ _ ⟨rfl,rfl⟩;(conv=>whnf))
  refine rdw ?_;repeat' ((with_reducible apply tw)<;>intro _)
  ·rename_i h1
   (refine (hMay_ok p.mine (ok_fewL hok.mine) p.nodes).mono ?_;rintro _ _ ⟨rfl,rfl⟩;(conv=>whnf))
   refine rdw ?_;repeat' ((with_reducible apply tw)<;>intro _)
   ·rename_i h2 h3 h4
    (refine (crising_ok p.acks hok.acks 1 p.nodes).mono ?_;rintro _ _ ⟨rfl,rfl⟩;(conv=>whnf))
    refine rdw ?_;repeat' ((with_reducible apply tw)<;>intro _)
    ·rename_i h5
     (refine (q_ok p.nodes ⟨by omega,by omega⟩).mono ?_;rintro _ _ ⟨rfl,rfl⟩;(conv=>whnf))
     refine rdw ?_;repeat' ((with_reducible apply tw)<;>intro _)
     refine ⟨boolEq ?_,rfl⟩
     simp only [decide_eq_true_iff,hal]
     exact ⟨fun h=>⟨fun h6=>absurd h6 h0,fun _=>h1,fun _=>h2,fun _=>h3,fun _=>h4,fun _=>h5,fun _=>h⟩,fun h=>h.less h0⟩
    ·rename_i h5
     exact ⟨by rw [decide_eq_false (fun h:okMine p=>h5 (h.acks h0))];rfl,rfl⟩
   ·rename_i h2 h3 h4
    exact ⟨by rw [decide_eq_false (fun h:okMine p=>h4 (h.round h0))];rfl,rfl⟩
   ·rename_i h2 h3
    exact ⟨by rw [decide_eq_false (fun h:okMine p=>h3 (h.author h0))];rfl,rfl⟩
   ·rename_i h2
    exact ⟨by rw [decide_eq_false (fun h:okMine p=>h2 (h.head h0))];rfl,rfl⟩
  ·rename_i h1
   exact ⟨by rw [decide_eq_false (fun h:okMine p=>h1 (h.dig h0))];rfl,rfl⟩
set_option maxHeartbeats 2000000 in
open Classical in
theorem late_full (n:Int) (l:List Cert) (hl:few l) (hc:∀ c∈l,fewL c):ACalls Tryz.prog 76 [.d (.sl 6 (certsD l)),.d (.int .i64 n)] [] (fun av L=>av = .d (.bool (decide (okLate n l)))∧L=[]):=by
 have hcl:=certsD_length l
 have hl':=hl
 unfold few at hl'
 (refine acalls_go ttOk zOk foOk Tryz.func76 rfl Tryz.ntmps76 rfl false rfl ?_);(conv=>whnf)
 refine loop_go ttOk zOk foOk (σ:=Nat) (fun j=>([(0,.d (.sl 6 (certsD l))),(1,.d (.int .i64 n)),(7,.d (.sl 6 (certsD l))),(8,.d (.int .i64 l.length)),(9,.d (.int .i64 j))],[])) (fun j=>j≤l.length∧risingC (l.take j)∧∀ c∈l.take j,okCert n c) (fun j=>l.length - j) [0,1,7,8,9] ?_ ?_
 ·conv=>whnf
  exact ⟨0,by rw [hcl];rfl,rfl,Nat.zero_le _,by simp [risingC],by simp⟩
 ·rintro j ⟨hj,hr,ho⟩
  conv=>whnf
  refine rdw ?_;repeat' ((with_reducible apply tw)<;>intro _)
  ·rename_i hjl
   refine Exists.elim (⟨_,List.getElem?_eq_getElem (by omega)⟩:∃ c,l[j]? = some c) fun c hcj => ?_
   have hcm:=List.mem_of_getElem? hcj
   have hm:=mayCert_ok c (hc c hcm) n
   have hsn:l.take (j+1)=l.take j++[c]:=by rw [List.take_add_one,hcj];rfl
   have hnext:okCert n c→(∀ b,0<j→l[j - 1]? = some b→b.digest<c.digest)→risingC (l.take (j+1))∧∀ c∈l.take (j+1),okCert n c:=by
    intro h1 h2
    rw [hsn]
    refine ⟨List.pairwise_append.2 ⟨hr,by simp,fun x hx y hy => ?_⟩,fun x hx => ?_⟩
    ·simp at hy
     subst hy
     obtain ⟨i,hi,rfl⟩:=List.mem_take_iff_getElem.1 hx
     have hb:=h2 l[j - 1] (by omega) (List.getElem?_eq_getElem (by omega))
     by_cases hij:i=j - 1
     ·subst hij;exact hb
     ·have hs:=List.pairwise_iff_getElem.1 hr i (j - 1) (by simp;omega) (by simp;omega) (by omega)
      simp only [List.getElem_take] at hs
      omega
    ·rcases List.mem_append.1 hx with hx|hx
     ·exact ho x hx
     ·simp at hx;subst hx;exact h1
   refine ⟨by omega,c.cs,certsD_at hcj,?_⟩
   conv=>whnf
   refine rdw ?_;repeat' ((with_reducible apply tw)<;>intro _)
   ((with_reducible refine draw_pl ttOk zOk foOk mixedOk pl76x4 ?_ ?_);(focus kernel_rfl);(conv=>whnf))
   refine rdw ?_;repeat' ((with_reducible apply tw)<;>intro _)
   refine hm.mono ?_
   rintro _ _ ⟨rfl,rfl⟩
   by_cases hoc:okCert n c
   ·rw [decide_eq_true hoc]
    conv=>whnf
    refine rdw ?_;repeat' ((with_reducible apply tw)<;>intro _)
    ·rename_i hj0
     replace hj0:(j:Int)>0:=hj0
     refine Exists.elim (⟨_,List.getElem?_eq_getElem (by omega)⟩:∃ b,l[j - 1]? = some b) fun b hb => ?_
     ((with_reducible apply rd_intro);(focus (intro K hK;(conv=>whnf);exact ⟨by omega,b.cs,(by rw [show ((j:Int) - 1).toNat=j - 1 by omega];exact certsD_at hb),hK⟩));(conv=>whnf))
     repeat' (first|(first|((with_reducible first|apply rd_intro|apply gd_and);(focus ((conv=>whnf)<;>first|rfl|(intro K hK;(conv=>whnf);first|exact hK|exact z_wrap (by omega) hK)));conv=>whnf)|((with_reducible apply z_wrap);(focus omega);conv=>whnf)|((with_reducible first|apply mt_dec|apply mt_eq|apply mt_ne|apply mt_not|apply mt_any)<;>(intro _;conv=>whnf)))|((with_reducible apply gd_and);(focus ((conv=>whnf);intro K hK;(conv=>whnf);exact ⟨by omega,b.cs,(by rw [show ((j:Int) - 1).toNat=j - 1 by omega];exact certsD_at hb),hK⟩));(conv=>whnf)))
     ·rename_i h
      replace h:b.digest≥c.digest:=h
      have hno:¬okLate n l:=fun hh=>by
       have:=List.pairwise_iff_getElem.1 hh.ris (j - 1) j (by omega) (by omega) (by omega)
       rw [(List.getElem?_eq_some_iff.1 hb).2,(List.getElem?_eq_some_iff.1 hcj).2] at this
       omega
      exact ⟨by rw [decide_eq_false hno];rfl,rfl⟩
     ·rename_i h
      replace h:¬b.digest≥c.digest:=h
      exact ⟨j+1,rfl,rfl,⟨by omega,hnext hoc (fun b' _ hb'=>by rw [hb] at hb';cases hb';omega)⟩,by omega⟩
    ·rename_i hj0
     replace hj0:¬(j:Int)>0:=hj0
     exact ⟨j+1,rfl,rfl,⟨by omega,hnext hoc (fun b' h0 _=>by omega)⟩,by omega⟩
   ·rw [decide_eq_false hoc]
    conv=>whnf
    refine rdw ?_;repeat' ((with_reducible apply tw)<;>intro _)
    exact ⟨by rw [decide_eq_false (fun hh:okLate n l=>hoc (hh.certs c hcm))];rfl,rfl⟩
  ·rename_i hjl
   have hjl2:l.take j=l:=List.take_of_length_le (by omega)
   rw [hjl2] at hr ho
   refine ⟨boolEq ?_,rfl⟩
   simp only [decide_eq_true_iff]
   exact ⟨fun h=>⟨by omega,hr,ho⟩,fun h=>by have:=h.len;omega⟩
open Classical in
theorem primMay_full (p:Prim) (hok:p.ok):ACalls Tryz.prog 41 [p.av] [] (fun av L=>av = .d (.bool (decide (May p)))∧L=[]):=by
 have hi:=is_ok p.nodes
 have hv:=voteMay_full p.votes hok.votes
 have hd:=dagMay_full p.dag hok.dag
 have hl:=late_full p.nodes p.late hok.late.1 (fun c hc=>ok_fewL (hok.late.2 c hc))
 (refine acalls_go ttOk zOk foOk Tryz.func41 rfl Tryz.ntmps41 rfl false rfl ?_);(conv=>whnf)
 refine rdw ?_;repeat' ((with_reducible apply tw)<;>intro _)
 refine hi.mono ?_
 rintro _ _ ⟨rfl,rfl⟩
 cases hn:isN p.nodes with
 | false =>
   conv=>whnf
   refine rdw ?_;repeat' ((with_reducible apply tw)<;>intro _)
   exact ⟨by rw [decide_eq_false (fun h:May p=>by have:=h.isn;rw [hn] at this;cases this)];rfl,rfl⟩
 | true =>
   have hm:=mine_full p hok hn
   conv=>whnf
   refine rdw ?_;repeat' ((with_reducible apply tw)<;>intro _)
   all_goals first
    | exact ⟨by rw [decide_eq_false (fun h:May p=>by have:=h.id;have:=h.round;have:=h.age;have:=h.said;omega)];rfl,rfl⟩
    | skip
   (refine (hm).mono ?_;rintro _ _ ⟨rfl,rfl⟩;(conv=>whnf))
   refine rdw ?_;repeat' ((with_reducible apply tw)<;>intro _)
   ·rename_i k8
    (refine (hv).mono ?_;rintro _ _ ⟨rfl,rfl⟩;(conv=>whnf))
    refine rdw ?_;repeat' ((with_reducible apply tw)<;>intro _)
    ·rename_i k9
     refine hd.mono ?_
     rintro _ _ ⟨rfl,rfl⟩
     by_cases hva:Valid p.dag
     ·rw [isV_yes hva]
      conv=>whnf
      refine rdw ?_;repeat' ((with_reducible apply tw)<;>intro _)
      ·rename_i k10
       (refine (hl).mono ?_;rintro _ _ ⟨rfl,rfl⟩;(conv=>whnf))
       refine rdw ?_;repeat' ((with_reducible apply tw)<;>intro _)
       refine ⟨boolEq ?_,rfl⟩
       simp only [decide_eq_true_iff]
       exact ⟨fun h=>⟨hn,by omega,by omega,by omega,by omega,k8,k9,hva,k10,h⟩,fun h=>h.late⟩
      ·rename_i k10
       exact ⟨by rw [decide_eq_false (fun h:May p=>k10 h.same)];rfl,rfl⟩
     ·rw [isV_no hva]
      conv=>whnf
      refine rdw ?_;repeat' ((with_reducible apply tw)<;>intro _)
      exact ⟨by rw [decide_eq_false (fun h:May p=>hva h.dag)];rfl,rfl⟩
    ·rename_i k9
     exact ⟨by rw [decide_eq_false (fun h:May p=>k9 h.votes)];rfl,rfl⟩
   ·rename_i k8
    exact ⟨by rw [decide_eq_false (fun h:May p=>k8 h.mine)];rfl,rfl⟩
end Go.Proofs.YtolkmjfkkkiboaaGreat
set_option linter.unusedVariables false
set_option linter.unusedSimpArgs false
namespace Go.Proofs.YtolkmjfkkkiboaaGreat
open Go.Ab Go.RowKit Go.MapKept
attribute [local irreducible] ACalls AW ADraw Into fltB fnear
set_option maxRecDepth 100000
def Tx.av (t:Tx):AV := .agg (t.cs.map AV.d)
theorem txsD_len (l:List Tx):(txsD l).length=l.length:=List.length_map ..
theorem txsD_at {l:List Tx} {k:Nat} {c:Tx} (h:l[k]? = some c):(txsD l)[k]? = some c.cs:=by simp [txsD,h]
structure okTx (t:Tx):Prop where
 sender:1≤t.sender∧t.sender≤1099511627776
 seq:1≤t.seq∧t.seq≤1099511627776
 key:1≤t.key.size∧t.key.size≤16
 val:t.val.size≤32
theorem noKey (k:ByteArray):(k.toList == (⟨#[]⟩:ByteArray).toList)=false↔1≤k.size:=by
 rw [ByteArray.toList_eq,ByteArray.toList_eq]
 constructor
 ·intro h
  rcases Nat.eq_zero_or_pos k.size with h0|h0
  ·have:k.data.toList=[]:=List.eq_nil_of_length_eq_zero (by simpa using h0)
   rw [this] at h
   simp at h
  ·exact h0
 ·intro h
  have:k.data.toList≠[]:=fun e=>by
   have:=congrArg List.length e
   simp at this
   simp [this] at h
  cases hk:k.data.toList with
  | nil=>exact absurd hk this
  | cons a t=>rfl
open Classical in
theorem mayTx_ok (t:Tx):ACalls Tryz.prog 234 [t.av] [] (fun av L=>av = .d (.bool (decide (okTx t)))∧L=[]):=by
 (refine acalls_go ttOk zOk foOk Tryz.func234 rfl Tryz.ntmps234 rfl false rfl ?_);(conv=>whnf)
 refine rdw ?_;repeat' ((with_reducible apply tw)<;>intro _)
 ·rename_i h1 h2 h3 h4 h5 h6
  rw [noKey] at h5
  exact ⟨boolEq (by simp only [decide_eq_true_iff];exact ⟨fun h=>⟨by omega,by omega,by omega,by omega⟩,fun h=>by have:=h.val;omega⟩),rfl⟩
 ·rename_i h1 h2 h3 h4 h5 h6
  exact ⟨by rw [decide_eq_false (fun h:okTx t=>by have:=h.key;omega)];rfl,rfl⟩
 ·rename_i h1 h2 h3 h4 h5
  exact ⟨by rw [decide_eq_false (fun h:okTx t=>by rw [(noKey t.key).2 h.key.1] at h5;cases h5)];rfl,rfl⟩
 all_goals exact ⟨by rw [decide_eq_false (fun h:okTx t=>by have:=h.sender;have:=h.seq;omega)];rfl,rfl⟩
open Classical in
theorem batMay1_ok (t:Tx):ACalls Tryz.prog 233 [t.av] [] (fun av L=>av = .d (.bool (decide (¬okTx t)))∧L=[]):=by
 (refine acalls_go ttOk zOk foOk Tryz.func233 rfl Tryz.ntmps233 rfl false rfl ?_);(conv=>whnf)
 refine rdw ?_;repeat' ((with_reducible apply tw)<;>intro _)
 refine (mayTx_ok t).mono ?_
 rintro _ _ ⟨rfl,rfl⟩
 conv=>whnf
 exact ⟨boolEq (by simp),rfl⟩
open Classical in
theorem indexTx_ok (l:List Tx) (hl:few l):ACalls Tryz.prog 255 [.d (.sl 4 (txsD l)),.fn 233 []] [] (fun av L=>(∃ z:Int,av = .d (.int .i64 z)∧(0≤z↔¬∀ t∈l,okTx t))∧L=[]):=by
 have hcl:=txsD_len l
 unfold few at hl
 (refine acalls_go ttOk zOk foOk Tryz.func255 rfl Tryz.ntmps255 rfl false rfl ?_);(conv=>whnf)
 refine loop_go ttOk zOk foOk (σ:=Nat) (fun j=>([(0,.d (.sl 4 (txsD l))),(1,.fn 233 []),(7,.d (.int .i64 l.length)),(8,.d (.int .i64 j))],[])) (fun j=>j≤l.length∧∀ t∈l.take j,okTx t) (fun j=>l.length - j) [0,1,7,8] ?_ ?_
 ·conv=>whnf
  exact ⟨0,by rw [hcl];rfl,rfl,Nat.zero_le _,by simp⟩
 ·rintro j ⟨hj,ho⟩
  conv=>whnf
  refine rdw ?_;repeat' ((with_reducible apply tw)<;>intro _)
  ·rename_i hjl
   refine Exists.elim (⟨_,List.getElem?_eq_getElem (by omega)⟩:∃ c,l[j]? = some c) fun t ht => ?_
   refine ⟨by omega,t.cs,txsD_at ht,?_⟩
   conv=>whnf
   refine (batMay1_ok t).mono ?_
   rintro _ _ ⟨rfl,rfl⟩
   by_cases h:okTx t
   ·rw [decide_eq_false (fun hh=>hh h)]
    conv=>whnf
    refine rdw ?_;repeat' ((with_reducible apply tw)<;>intro _)
    refine ⟨j+1,rfl,rfl,⟨by omega,fun x hx => ?_⟩,by omega⟩
    rw [List.take_add_one,ht] at hx
    rcases List.mem_append.1 hx with hx|hx
    ·exact ho x hx
    ·simp at hx;subst hx;exact h
   ·rw [decide_eq_true h]
    conv=>whnf
    refine rdw ?_;repeat' ((with_reducible apply tw)<;>intro _)
    exact ⟨⟨j,rfl,by constructor;(intro _ hh;exact h (hh t (List.mem_of_getElem? ht)));(intro _;omega)⟩,rfl⟩
  ·rename_i hjl
   rw [List.take_of_length_le (by omega)] at ho
   exact ⟨⟨-1,rfl,by constructor;(intro h;omega);(intro h;exact absurd ho h)⟩,rfl⟩
open Classical in
theorem containsTx_ok (l:List Tx) (hl:few l):ACalls Tryz.prog 232 [.d (.sl 4 (txsD l)),.fn 233 []] [] (fun av L=>av = .d (.bool (decide (¬∀ t∈l,okTx t)))∧L=[]):=by
 (refine acalls_go ttOk zOk foOk Tryz.func232 rfl Tryz.ntmps232 rfl false rfl ?_);(conv=>whnf)
 refine rdw ?_;repeat' ((with_reducible apply tw)<;>intro _)
 refine (indexTx_ok l hl).mono ?_
 rintro _ _ ⟨⟨z,rfl,hz⟩,rfl⟩
 conv=>whnf
 exact ⟨boolEq (by simp only [decide_eq_true_iff];exact hz),rfl⟩
structure okBatch (m:Msg):Prop where
 author:1≤m.ba∧m.ba≤16
 n:1≤m.bn∧m.bn≤1099511627776
 len:1≤m.txs.length∧m.txs.length≤8
 txs:∀ t∈m.txs,okTx t
def Msg.bav (m:Msg):AV := .agg [.d (.int .i64 m.ba),.d (.int .i64 m.bn),.d (.sl 4 (txsD m.txs))]
open Classical in
theorem batchMay_ok (m:Msg) (hl:few m.txs):ACalls Tryz.prog 199 [m.bav] [] (fun av L=>av = .d (.bool (decide (okBatch m)))∧L=[]):=by
 have hcl:=txsD_len m.txs
 (refine acalls_go ttOk zOk foOk Tryz.func199 rfl Tryz.ntmps199 rfl false rfl ?_);(conv=>whnf)
 refine rdw ?_;repeat' ((with_reducible apply tw)<;>intro _)
 all_goals first
  | exact ⟨by rw [decide_eq_false (fun h:okBatch m=>by have:=h.author;have:=h.n;have:=h.len;omega)];rfl,rfl⟩
  | skip
 (refine (containsTx_ok m.txs hl).mono ?_;rintro _ _ ⟨rfl,rfl⟩;(conv=>whnf))
 exact ⟨boolEq (by simp only [Bool.not_eq_true',decide_eq_false_iff_not,decide_eq_true_iff,Classical.not_not];exact ⟨fun h=>⟨by omega,by omega,by omega,h⟩,fun h=>h.txs⟩),rfl⟩
structure okKind (n:Int) (m:Msg):Prop where
 kind:1≤m.kind∧m.kind≤8
 dig:m.kind≤5→1≤m.digest∧m.digest≤65536
 bat:m.kind=1∨m.kind=3→okBatch m∧m.ba≤n
 head:m.kind=4→okHead n m.head∧m.head.author=m.src
 cert:m.kind=6→okCert n m.cert
 digs:7≤m.kind→(1≤m.digs.length∧m.digs.length≤16)∧riseB m.digs 1 65536
structure onlyKind (m:Msg):Prop where
 dig:6≤m.kind→m.digest=0
 bat:m.kind≠1∧m.kind≠3→m.ba=0∧m.bn=0∧m.txs=[]
 head:m.kind≠4→m.head.author=0∧m.head.round=0∧m.head.bats=[]∧m.head.pars=[]
 cert:m.kind≠6→m.cert.author=0∧m.cert.round=0∧m.cert.bats=[]∧m.cert.pars=[]∧m.cert.digest=0∧m.cert.sigs=[]
 digs:m.kind≤6→m.digs=[]
structure okMsg (n:Int) (m:Msg):Prop where
 isn:isN n=true
 src:1≤m.src∧m.src≤n
 dst:1≤m.dst∧m.dst≤n
 ne:m.src≠m.dst
 ok:okKind n m
 only:onlyKind m
structure Msg.fine (m:Msg):Prop where
 txs:few m.txs
 head:fewL m.head
 cert:fewL m.cert
 digs:few m.digs
def bavN (b:Bool) (m:Msg):List AV:=if b then [.d (.int .i64 m.ba),.d (.int .i64 m.bn),.d (.sl 4 (txsD m.txs))] else [.d (.int .i64 0),.d (.int .i64 0),.d .nils]
def havN (b:Bool) (c:Cert):List AV:=if b then [.d (.int .i64 c.author),.d (.int .i64 c.round),.d (.sl 1 (nums c.bats)),.d (.sl 1 (nums c.pars))] else [.d (.int .i64 0),.d (.int .i64 0),.d .nils,.d .nils]
def cavN (b:Bool) (c:Cert):List AV:=if b then [.d (.int .i64 c.author),.d (.int .i64 c.round),.d (.sl 1 (nums c.bats)),.d (.sl 1 (nums c.pars)),.d (.int .i64 c.digest),.d (.sl 1 (nums c.sigs))] else [.d (.int .i64 0),.d (.int .i64 0),.d .nils,.d .nils,.d (.int .i64 0),.d .nils]
def davN (b:Bool) (l:List Int):AV:=if b then .d (.sl 1 (nums l)) else .d .nils
def onlyAV (m:Msg) (g b h c d:Bool):AV := .agg ([.d (.int .i64 m.kind),.d (.int .i64 m.src),.d (.int .i64 m.dst),.d (.int .i64 (if g then m.digest else 0))]++bavN b m++havN h m.head++cavN c m.cert++[davN d m.digs])
def flagsOk (g b h c d:Bool):Prop:=(g=true∧b=true∧h=false∧c=false∧d=false)∨(g=true∧b=false∧h=false∧c=false∧d=false)∨(g=true∧b=false∧h=true∧c=false∧d=false)∨(g=false∧b=false∧h=false∧c=true∧d=false)∨(g=false∧b=false∧h=false∧c=false∧d=true)∨(g=false∧b=false∧h=false∧c=false∧d=false)
open Classical in
theorem only_fin {n:Int} {m:Msg} {X Y:AV} (g b h c d:Bool) (B:Bool) (hX:X=onlyAV m g b h c d) (hY:Y = .d (.bool B)) (hB:B=true↔okKind n m)
  (hk:okKind n m→g=decide (m.kind≤5)∧b=decide (m.kind=1∨m.kind=3)∧h=decide (m.kind=4)∧c=decide (m.kind=6)∧d=decide (7≤m.kind)) (hfl:flagsOk g b h c d:=by simp [flagsOk]) :
  (∃ g b h c d,AV.tup [X,Y] = .tup [onlyAV m g b h c d,.d (.bool (decide (okKind n m)))]∧flagsOk g b h c d∧(okKind n m→g=decide (m.kind≤5)∧b=decide (m.kind=1∨m.kind=3)∧h=decide (m.kind=4)∧c=decide (m.kind=6)∧d=decide (7≤m.kind)))∧([]:List AB)=[]:=by
 refine ⟨⟨g,b,h,c,d,?_,hfl,hk⟩,rfl⟩
 have:B=decide (okKind n m):=by rw [Bool.eq_iff_iff,decide_eq_true_iff];exact hB
 rw [hX,hY,this]
set_option maxHeartbeats 4000000 in
open Classical in
theorem only_ok (m:Msg) (hf:m.fine) (n:Int):ACalls Tryz.prog 164 [m.av,.d (.int .i64 n)] [] (fun av L=>(∃ g b h c d,av = .tup [onlyAV m g b h c d,.d (.bool (decide (okKind n m)))]∧flagsOk g b h c d∧(okKind n m→g=decide (m.kind≤5)∧b=decide (m.kind=1∨m.kind=3)∧h=decide (m.kind=4)∧c=decide (m.kind=6)∧d=decide (7≤m.kind)))∧L=[]):=by
 have hdl:=nums_length m.digs
 (refine acalls_go ttOk zOk foOk Tryz.func164 rfl Tryz.ntmps164 rfl false rfl ?_);(conv=>whnf)
 refine rdw ?_;repeat' ((with_reducible apply tw)<;>intro _)
 · · rename_i hk
     ((with_reducible refine draw_pl ttOk zOk foOk mixedOk pl164x5 ?_ ?_);(focus kernel_rfl);(conv=>whnf))
     refine rdw ?_;repeat' ((with_reducible apply tw)<;>intro _)
     (refine (digest_ok m.digest).mono ?_;rintro _ _ ⟨rfl,rfl⟩;(conv=>whnf))
     refine rdw ?_;repeat' ((with_reducible apply tw)<;>intro _)
     ·rename_i h1
      (refine (batchMay_ok m hf.txs).mono ?_;rintro _ _ ⟨rfl,rfl⟩;(conv=>whnf))
      refine rdw ?_;repeat' ((with_reducible apply tw)<;>intro _)
      ·rename_i h2
       refine only_fin true true false false false _ rfl rfl ?_ (fun _=>⟨by simp [hk],by simp [hk],by simp [hk],by simp [hk],by simp [hk]⟩)
       simp only [decide_eq_true_iff]
       exact ⟨fun h=>⟨by omega,fun _=>h1,fun _=>⟨h2,h⟩,by omega,by omega,by omega⟩,fun h=>(h.bat (by omega)).2⟩
      ·rename_i h2
       refine only_fin true true false false false _ rfl rfl ?_ (fun h=>absurd (h.bat (by omega)).1 h2)
       exact ⟨fun h=>(by cases h),fun h=>absurd (h.bat (by omega)).1 h2⟩
     ·rename_i h1
      refine only_fin true true false false false _ rfl rfl ?_ (fun h=>absurd (h.dig (by omega)) h1)
      exact ⟨fun h=>(by cases h),fun h=>absurd (h.dig (by omega)) h1⟩
 · · rename_i hk
     ((with_reducible refine draw_pl ttOk zOk foOk mixedOk pl164x5 ?_ ?_);(focus kernel_rfl);(conv=>whnf))
     refine rdw ?_;repeat' ((with_reducible apply tw)<;>intro _)
     (refine (digest_ok m.digest).mono ?_;rintro _ _ ⟨rfl,rfl⟩;(conv=>whnf))
     refine rdw ?_;repeat' ((with_reducible apply tw)<;>intro _)
     ·rename_i h1
      (refine (batchMay_ok m hf.txs).mono ?_;rintro _ _ ⟨rfl,rfl⟩;(conv=>whnf))
      refine rdw ?_;repeat' ((with_reducible apply tw)<;>intro _)
      ·rename_i h2
       refine only_fin true true false false false _ rfl rfl ?_ (fun _=>⟨by simp [hk],by simp [hk],by simp [hk],by simp [hk],by simp [hk]⟩)
       simp only [decide_eq_true_iff]
       exact ⟨fun h=>⟨by omega,fun _=>h1,fun _=>⟨h2,h⟩,by omega,by omega,by omega⟩,fun h=>(h.bat (by omega)).2⟩
      ·rename_i h2
       refine only_fin true true false false false _ rfl rfl ?_ (fun h=>absurd (h.bat (by omega)).1 h2)
       exact ⟨fun h=>(by cases h),fun h=>absurd (h.bat (by omega)).1 h2⟩
     ·rename_i h1
      refine only_fin true true false false false _ rfl rfl ?_ (fun h=>absurd (h.dig (by omega)) h1)
      exact ⟨fun h=>(by cases h),fun h=>absurd (h.dig (by omega)) h1⟩
 · · rename_i hk
     (refine (digest_ok m.digest).mono ?_;rintro _ _ ⟨rfl,rfl⟩;(conv=>whnf))
     refine rdw ?_;repeat' ((with_reducible apply tw)<;>intro _)
     refine only_fin true false false false false _ rfl rfl ?_ (fun _=>⟨by simp [hk],by simp [hk],by simp [hk],by simp [hk],by simp [hk]⟩)
     simp only [decide_eq_true_iff]
     exact ⟨fun h=>⟨by omega,fun _=>h,by omega,by omega,by omega,by omega⟩,fun h=>h.dig (by omega)⟩
 · · rename_i hk
     (refine (digest_ok m.digest).mono ?_;rintro _ _ ⟨rfl,rfl⟩;(conv=>whnf))
     refine rdw ?_;repeat' ((with_reducible apply tw)<;>intro _)
     refine only_fin true false false false false _ rfl rfl ?_ (fun _=>⟨by simp [hk],by simp [hk],by simp [hk],by simp [hk],by simp [hk]⟩)
     simp only [decide_eq_true_iff]
     exact ⟨fun h=>⟨by omega,fun _=>h,by omega,by omega,by omega,by omega⟩,fun h=>h.dig (by omega)⟩
 ·rename_i hk
  ((with_reducible refine draw_pl ttOk zOk foOk mixedOk pl164x12 ?_ ?_);(focus kernel_rfl);(conv=>whnf))
  refine rdw ?_;repeat' ((with_reducible apply tw)<;>intro _)
  (refine (digest_ok m.digest).mono ?_;rintro _ _ ⟨rfl,rfl⟩;(conv=>whnf))
  refine rdw ?_;repeat' ((with_reducible apply tw)<;>intro _)
  ·rename_i h1
   (refine (hMay_ok m.head hf.head n).mono ?_;rintro _ _ ⟨rfl,rfl⟩;(conv=>whnf))
   refine rdw ?_;repeat' ((with_reducible apply tw)<;>intro _)
   ·rename_i h2
    refine only_fin true false true false false _ rfl rfl ?_ (fun _=>⟨by simp [hk],by simp [hk],by simp [hk],by simp [hk],by simp [hk]⟩)
    simp only [beq_iff_eq]
    exact ⟨fun h=>⟨by omega,fun _=>h1,by omega,fun _=>⟨h2,h⟩,by omega,by omega⟩,fun h=>(h.head hk).2⟩
   ·rename_i h2
    have hno:¬okKind n m:=fun h=>h2 (h.head hk).1
    exact only_fin true false true false false _ rfl rfl ⟨fun h=>(by cases h),fun h=>absurd h hno⟩ (fun h=>absurd h hno)
  ·rename_i h1
   have hno:¬okKind n m:=fun h=>h1 (h.dig (by omega))
   exact only_fin true false true false false _ rfl rfl ⟨fun h=>(by cases h),fun h=>absurd h hno⟩ (fun h=>absurd h hno)
 ·rename_i hk
  (refine (mayCert_ok m.cert hf.cert n).mono ?_;rintro _ _ ⟨rfl,rfl⟩;(conv=>whnf))
  refine only_fin false false false true false _ rfl rfl ?_ (fun _=>⟨by simp [hk],by simp [hk],by simp [hk],by simp [hk],by simp [hk]⟩)
  simp only [decide_eq_true_iff]
  exact ⟨fun h=>⟨by omega,by omega,by omega,by omega,fun _=>h,by omega⟩,fun h=>h.cert hk⟩
 ·rename_i hk h1 h2
  replace h1:((nums m.digs).length:Int)≥1:=h1
  replace h2:((nums m.digs).length:Int)≤16:=h2
  (refine (digests_ok m.digs hf.digs).mono ?_;rintro _ _ ⟨rfl,rfl⟩;(conv=>whnf))
  refine only_fin false false false false true _ rfl rfl ?_ (fun _=>⟨by simp [hk],by simp [hk],by simp [hk],by simp [hk],by simp [hk]⟩)
  simp only [decide_eq_true_iff]
  exact ⟨fun h=>⟨by omega,by omega,by omega,by omega,by omega,fun _=>⟨by omega,h⟩⟩,fun h=>(h.digs (by omega)).2⟩
 ·rename_i hk h1 h2
  replace h2:¬((nums m.digs).length:Int)≤16:=h2
  have hno:¬okKind n m:=fun h=>by have:=(h.digs (by omega)).1;omega
  exact only_fin false false false false true _ rfl rfl ⟨fun h=>(by cases h),fun h=>absurd h hno⟩ (fun h=>absurd h hno)
 ·rename_i hk h1
  replace h1:¬((nums m.digs).length:Int)≥1:=h1
  have hno:¬okKind n m:=fun h=>by have:=(h.digs (by omega)).1;omega
  exact only_fin false false false false true _ rfl rfl ⟨fun h=>(by cases h),fun h=>absurd h hno⟩ (fun h=>absurd h hno)
 ·rename_i hk h1 h2
  replace h1:((nums m.digs).length:Int)≥1:=h1
  replace h2:((nums m.digs).length:Int)≤16:=h2
  (refine (digests_ok m.digs hf.digs).mono ?_;rintro _ _ ⟨rfl,rfl⟩;(conv=>whnf))
  refine only_fin false false false false true _ rfl rfl ?_ (fun _=>⟨by simp [hk],by simp [hk],by simp [hk],by simp [hk],by simp [hk]⟩)
  simp only [decide_eq_true_iff]
  exact ⟨fun h=>⟨by omega,by omega,by omega,by omega,by omega,fun _=>⟨by omega,h⟩⟩,fun h=>(h.digs (by omega)).2⟩
 ·rename_i hk h1 h2
  replace h2:¬((nums m.digs).length:Int)≤16:=h2
  have hno:¬okKind n m:=fun h=>by have:=(h.digs (by omega)).1;omega
  exact only_fin false false false false true _ rfl rfl ⟨fun h=>(by cases h),fun h=>absurd h hno⟩ (fun h=>absurd h hno)
 ·rename_i hk h1
  replace h1:¬((nums m.digs).length:Int)≥1:=h1
  have hno:¬okKind n m:=fun h=>by have:=(h.digs (by omega)).1;omega
  exact only_fin false false false false true _ rfl rfl ⟨fun h=>(by cases h),fun h=>absurd h hno⟩ (fun h=>absurd h hno)
 ·have hno:¬okKind n m:=fun h=>by have:=h.kind;omega
  exact only_fin false false false false false _ rfl rfl ⟨fun h=>(by cases h),fun h=>absurd h hno⟩ (fun h=>absurd h hno)
open Classical in
theorem head_cmp (a:Cert):ACalls Tryz.prog 165 [a.hav,.agg (havN false a)] [] (fun av L=>av = .d (.bool (decide (a.author=0∧a.round=0∧a.bats.length=0∧a.pars.length=0)))∧L=[]):=by
 have l2:=nums_length a.bats
 have l3:=nums_length a.pars
 (refine acalls_go ttOk zOk foOk Tryz.func165 rfl Tryz.ntmps165 rfl false rfl ?_);(conv=>whnf)
 refine rdw ?_;repeat' ((with_reducible apply tw)<;>intro _)
 ·rename_i h1 h2 h3
  replace h3:((nums a.bats).length:Int)=0:=h3
  refine ⟨boolEq ?_,rfl⟩
  simp only [beq_iff_eq,decide_eq_true_iff]
  exact ⟨fun h=>by have h:((nums a.pars).length:Int)=0:=h;exact ⟨h1,h2,by omega,by omega⟩,fun h=>by show ((nums a.pars).length:Int)=0;omega⟩
 ·rename_i h1 h2 h3
  replace h3:¬((nums a.bats).length:Int)=0:=h3
  exact ⟨by rw [decide_eq_false (fun h=>by omega)];rfl,rfl⟩
 ·rename_i h1 h2
  exact ⟨by rw [decide_eq_false (fun h=>h2 h.2.1)];rfl,rfl⟩
 ·rename_i h1
  exact ⟨by rw [decide_eq_false (fun h=>h1 h.1)];rfl,rfl⟩
theorem okMsg_iff {n:Int} {m:Msg} {g b h c d:Bool} (hn:isN n=true) (h1:1≤m.src∧m.src≤n) (h2:1≤m.dst∧m.dst≤n) (h3:m.src≠m.dst) (hok:okKind n m)
  (hk:g=decide (m.kind≤5)∧b=decide (m.kind=1∨m.kind=3)∧h=decide (m.kind=4)∧c=decide (m.kind=6)∧d=decide (7≤m.kind)) :
  okMsg n m↔(g=true∨m.digest=0)∧(b=true∨m.ba=0∧m.bn=0∧m.txs.length=0)∧(h=true∨m.head.author=0∧m.head.round=0∧m.head.bats.length=0∧m.head.pars.length=0)∧(c=true∨(m.cert.author=0∧m.cert.round=0∧m.cert.bats.length=0∧m.cert.pars.length=0)∧m.cert.digest=0∧m.cert.sigs.length=0)∧(d=true∨m.digs.length=0):=by
 obtain ⟨rfl,rfl,rfl,rfl,rfl⟩:=hk
 simp only [decide_eq_true_iff]
 constructor
 ·intro hh
  have o:=hh.only
  refine ⟨?_,?_,?_,?_,?_⟩
  ·rcases Int.lt_or_le m.kind 6 with h|h
   ·left;omega
   ·right;exact o.dig h
  ·by_cases h:m.kind=1∨m.kind=3
   ·left;exact h
   ·right
    obtain ⟨a1,a2,a3⟩:=o.bat ⟨fun e=>h (.inl e),fun e=>h (.inr e)⟩
    exact ⟨a1,a2,by rw [a3];rfl⟩
  ·by_cases h:m.kind=4
   ·left;exact h
   ·right
    obtain ⟨a1,a2,a3,a4⟩:=o.head h
    exact ⟨a1,a2,by rw [a3];rfl,by rw [a4];rfl⟩
  ·by_cases h:m.kind=6
   ·left;exact h
   ·right
    obtain ⟨a1,a2,a3,a4,a5,a6⟩:=o.cert h
    exact ⟨⟨a1,a2,by rw [a3];rfl,by rw [a4];rfl⟩,a5,by rw [a6];rfl⟩
  ·rcases Int.lt_or_le m.kind 7 with h|h
   ·right;rw [o.digs (by omega)];rfl
   ·left;exact h
 ·rintro ⟨a1,a2,a3,a4,a5⟩
  refine ⟨hn,h1,h2,h3,hok,⟨fun h => ?_,fun h => ?_,fun h => ?_,fun h => ?_,fun h => ?_⟩⟩
  ·rcases a1 with a1|a1
   ·omega
   ·exact a1
  ·rcases a2 with a2|a2
   ·omega
   ·exact ⟨a2.1,a2.2.1,List.eq_nil_of_length_eq_zero a2.2.2⟩
  ·rcases a3 with a3|a3
   ·omega
   ·exact ⟨a3.1,a3.2.1,List.eq_nil_of_length_eq_zero a3.2.2.1,List.eq_nil_of_length_eq_zero a3.2.2.2⟩
  ·rcases a4 with a4|a4
   ·omega
   ·exact ⟨a4.1.1,a4.1.2.1,List.eq_nil_of_length_eq_zero a4.1.2.2.1,List.eq_nil_of_length_eq_zero a4.1.2.2.2,a4.2.1,List.eq_nil_of_length_eq_zero a4.2.2⟩
  ·rcases a5 with a5|a5
   ·omega
   ·exact List.eq_nil_of_length_eq_zero a5
set_option maxHeartbeats 8000000 in
open Classical in
theorem msgMay_full (m:Msg) (hf:m.fine) (n:Int):ACalls Tryz.prog 114 [m.av,.d (.int .i64 n)] [] (fun av L=>av = .d (.bool (decide (okMsg n m)))∧L=[]):=by
 have hi:=is_ok n
 have ho:=only_ok m hf n
 have l1:=txsD_len m.txs
 have l2:=nums_length m.head.bats
 have l3:=nums_length m.head.pars
 have l4:=nums_length m.cert.bats
 have l5:=nums_length m.cert.pars
 have l6:=nums_length m.cert.sigs
 have l7:=nums_length m.digs
 (refine acalls_go ttOk zOk foOk Tryz.func114 rfl Tryz.ntmps114 rfl false rfl ?_);(conv=>whnf)
 refine rdw ?_;repeat' ((with_reducible apply tw)<;>intro _)
 refine hi.mono ?_
 rintro _ _ ⟨rfl,rfl⟩
 cases hn:isN n with
 | false =>
   conv=>whnf
   refine rdw ?_;repeat' ((with_reducible apply tw)<;>intro _)
   exact ⟨by rw [decide_eq_false (fun h:okMsg n m=>by have:=h.isn;rw [hn] at this;cases this)];rfl,rfl⟩
 | true =>
   conv=>whnf
   refine rdw ?_;repeat' ((with_reducible apply tw)<;>intro _)
   all_goals first
    | exact ⟨by rw [decide_eq_false (fun h:okMsg n m=>by have:=h.src;have:=h.dst;have:=h.ne;omega)];rfl,rfl⟩
    | skip
   refine ho.mono ?_
   rintro _ _ ⟨⟨g,b,h,c,d,rfl,hfl,hk⟩,rfl⟩
   by_cases hok:okKind n m
   ·have key:=okMsg_iff hn (show 1≤m.src∧m.src≤n by omega) (show 1≤m.dst∧m.dst≤n by omega) ‹m.src≠m.dst› hok (hk hok)
    clear hk
    rw [decide_eq_true hok]
    rcases hfl with ⟨rfl,rfl,rfl,rfl,rfl⟩|⟨rfl,rfl,rfl,rfl,rfl⟩|⟨rfl,rfl,rfl,rfl,rfl⟩|⟨rfl,rfl,rfl,rfl,rfl⟩|⟨rfl,rfl,rfl,rfl,rfl⟩|⟨rfl,rfl,rfl,rfl,rfl⟩
    ·simp only [Bool.false_eq_true,false_or,true_or,true_and,and_true] at key
     conv=>whnf
     repeat' (first|(first|((with_reducible first|apply rd_intro|apply gd_and);(focus ((conv=>whnf)<;>first|rfl|(intro K hK;(conv=>whnf);first|exact hK|exact z_wrap (by omega) hK)));conv=>whnf)|((with_reducible apply z_wrap);(focus omega);conv=>whnf)|((with_reducible first|apply mt_dec|apply mt_eq|apply mt_ne|apply mt_not|apply mt_any)<;>(intro _;conv=>whnf)))|(refine ACalls.mono (head_cmp m.head) ?_;rintro _ _ ⟨rfl,rfl⟩;(conv=>whnf))|(refine ACalls.mono (head_cmp m.cert) ?_;rintro _ _ ⟨rfl,rfl⟩;(conv=>whnf)))
     all_goals first
      | (rename_i e;exact absurd rfl e)
      | (rename_i e;replace e:m.digest≠0:=e;exact ⟨by rw [decide_eq_false (fun hh=>by have:=key.1 hh;omega)];rfl,rfl⟩)
      | exact ⟨by rw [decide_eq_false (fun hh=>by have:=key.1 hh;omega)];rfl,rfl⟩
      | (refine ⟨boolEq ?_,rfl⟩;rw [decide_eq_true_iff,key];simp only [beq_iff_eq];constructor<;>intro hh<;>omega)
      | (have hz:m.digest=0:=‹m.digest=if false=true then m.digest else 0›;refine ⟨boolEq ?_,rfl⟩;rw [decide_eq_true_iff,key];simp only [beq_iff_eq];constructor<;>intro hh<;>omega)
      | (have hz:m.digest=0:=‹m.digest=if false=true then m.digest else 0›;refine ⟨boolEq ?_,rfl⟩;rw [decide_eq_true_iff,key,beq_iff_eq];exact ⟨fun _=>by omega,fun _=>rfl⟩)
      | skip
    ·simp only [Bool.false_eq_true,false_or,true_or,true_and,and_true] at key
     conv=>whnf
     repeat' (first|(first|((with_reducible first|apply rd_intro|apply gd_and);(focus ((conv=>whnf)<;>first|rfl|(intro K hK;(conv=>whnf);first|exact hK|exact z_wrap (by omega) hK)));conv=>whnf)|((with_reducible apply z_wrap);(focus omega);conv=>whnf)|((with_reducible first|apply mt_dec|apply mt_eq|apply mt_ne|apply mt_not|apply mt_any)<;>(intro _;conv=>whnf)))|(refine ACalls.mono (head_cmp m.head) ?_;rintro _ _ ⟨rfl,rfl⟩;(conv=>whnf))|(refine ACalls.mono (head_cmp m.cert) ?_;rintro _ _ ⟨rfl,rfl⟩;(conv=>whnf)))
     all_goals first
      | (rename_i e;exact absurd rfl e)
      | (rename_i e;replace e:m.digest≠0:=e;exact ⟨by rw [decide_eq_false (fun hh=>by have:=key.1 hh;omega)];rfl,rfl⟩)
      | exact ⟨by rw [decide_eq_false (fun hh=>by have:=key.1 hh;omega)];rfl,rfl⟩
      | (refine ⟨boolEq ?_,rfl⟩;rw [decide_eq_true_iff,key];simp only [beq_iff_eq];constructor<;>intro hh<;>omega)
      | (have hz:m.digest=0:=‹m.digest=if false=true then m.digest else 0›;refine ⟨boolEq ?_,rfl⟩;rw [decide_eq_true_iff,key];simp only [beq_iff_eq];constructor<;>intro hh<;>omega)
      | (have hz:m.digest=0:=‹m.digest=if false=true then m.digest else 0›;refine ⟨boolEq ?_,rfl⟩;rw [decide_eq_true_iff,key,beq_iff_eq];exact ⟨fun _=>by omega,fun _=>rfl⟩)
      | skip
    ·simp only [Bool.false_eq_true,false_or,true_or,true_and,and_true] at key
     conv=>whnf
     repeat' (first|(first|((with_reducible first|apply rd_intro|apply gd_and);(focus ((conv=>whnf)<;>first|rfl|(intro K hK;(conv=>whnf);first|exact hK|exact z_wrap (by omega) hK)));conv=>whnf)|((with_reducible apply z_wrap);(focus omega);conv=>whnf)|((with_reducible first|apply mt_dec|apply mt_eq|apply mt_ne|apply mt_not|apply mt_any)<;>(intro _;conv=>whnf)))|(refine ACalls.mono (headSame_ok m.head) ?_;rintro _ _ ⟨rfl,rfl⟩;(conv=>whnf))|(refine ACalls.mono (head_cmp m.cert) ?_;rintro _ _ ⟨rfl,rfl⟩;(conv=>whnf)))
     all_goals first
      | (rename_i e;exact absurd rfl e)
      | (rename_i e;replace e:m.digest≠0:=e;exact ⟨by rw [decide_eq_false (fun hh=>by have:=key.1 hh;omega)];rfl,rfl⟩)
      | exact ⟨by rw [decide_eq_false (fun hh=>by have:=key.1 hh;omega)];rfl,rfl⟩
      | (refine ⟨boolEq ?_,rfl⟩;rw [decide_eq_true_iff,key];simp only [beq_iff_eq];constructor<;>intro hh<;>omega)
      | (have hz:m.digest=0:=‹m.digest=if false=true then m.digest else 0›;refine ⟨boolEq ?_,rfl⟩;rw [decide_eq_true_iff,key];simp only [beq_iff_eq];constructor<;>intro hh<;>omega)
      | (have hz:m.digest=0:=‹m.digest=if false=true then m.digest else 0›;refine ⟨boolEq ?_,rfl⟩;rw [decide_eq_true_iff,key,beq_iff_eq];exact ⟨fun _=>by omega,fun _=>rfl⟩)
      | skip
    ·simp only [Bool.false_eq_true,false_or,true_or,true_and,and_true] at key
     conv=>whnf
     repeat' (first|(first|((with_reducible first|apply rd_intro|apply gd_and);(focus ((conv=>whnf)<;>first|rfl|(intro K hK;(conv=>whnf);first|exact hK|exact z_wrap (by omega) hK)));conv=>whnf)|((with_reducible apply z_wrap);(focus omega);conv=>whnf)|((with_reducible first|apply mt_dec|apply mt_eq|apply mt_ne|apply mt_not|apply mt_any)<;>(intro _;conv=>whnf)))|(refine ACalls.mono (head_cmp m.head) ?_;rintro _ _ ⟨rfl,rfl⟩;(conv=>whnf))|(refine ACalls.mono (headSame_ok m.cert) ?_;rintro _ _ ⟨rfl,rfl⟩;(conv=>whnf)))
     all_goals first
      | (rename_i e;exact absurd rfl e)
      | (rename_i e;replace e:m.digest≠0:=e;exact ⟨by rw [decide_eq_false (fun hh=>by have:=key.1 hh;omega)];rfl,rfl⟩)
      | exact ⟨by rw [decide_eq_false (fun hh=>by have:=key.1 hh;omega)];rfl,rfl⟩
      | (refine ⟨boolEq ?_,rfl⟩;rw [decide_eq_true_iff,key];simp only [beq_iff_eq];constructor<;>intro hh<;>omega)
      | (have hz:m.digest=0:=‹m.digest=if false=true then m.digest else 0›;refine ⟨boolEq ?_,rfl⟩;rw [decide_eq_true_iff,key];simp only [beq_iff_eq];constructor<;>intro hh<;>omega)
      | (have hz:m.digest=0:=‹m.digest=if false=true then m.digest else 0›;refine ⟨boolEq ?_,rfl⟩;rw [decide_eq_true_iff,key,beq_iff_eq];exact ⟨fun _=>by omega,fun _=>rfl⟩)
      | skip
    ·simp only [Bool.false_eq_true,false_or,true_or,true_and,and_true] at key
     conv=>whnf
     repeat' (first|(first|((with_reducible first|apply rd_intro|apply gd_and);(focus ((conv=>whnf)<;>first|rfl|(intro K hK;(conv=>whnf);first|exact hK|exact z_wrap (by omega) hK)));conv=>whnf)|((with_reducible apply z_wrap);(focus omega);conv=>whnf)|((with_reducible first|apply mt_dec|apply mt_eq|apply mt_ne|apply mt_not|apply mt_any)<;>(intro _;conv=>whnf)))|(refine ACalls.mono (head_cmp m.head) ?_;rintro _ _ ⟨rfl,rfl⟩;(conv=>whnf))|(refine ACalls.mono (head_cmp m.cert) ?_;rintro _ _ ⟨rfl,rfl⟩;(conv=>whnf)))
     all_goals first
      | (rename_i e;exact absurd rfl e)
      | (rename_i e;replace e:m.digest≠0:=e;exact ⟨by rw [decide_eq_false (fun hh=>by have:=key.1 hh;omega)];rfl,rfl⟩)
      | exact ⟨by rw [decide_eq_false (fun hh=>by have:=key.1 hh;omega)];rfl,rfl⟩
      | (refine ⟨boolEq ?_,rfl⟩;rw [decide_eq_true_iff,key];simp only [beq_iff_eq];constructor<;>intro hh<;>omega)
      | (have hz:m.digest=0:=‹m.digest=if false=true then m.digest else 0›;refine ⟨boolEq ?_,rfl⟩;rw [decide_eq_true_iff,key];simp only [beq_iff_eq];constructor<;>intro hh<;>omega)
      | (have hz:m.digest=0:=‹m.digest=if false=true then m.digest else 0›;refine ⟨boolEq ?_,rfl⟩;rw [decide_eq_true_iff,key,beq_iff_eq];exact ⟨fun _=>by omega,fun _=>rfl⟩)
      | skip
    ·simp only [Bool.false_eq_true,false_or,true_or,true_and,and_true] at key
     conv=>whnf
     repeat' (first|(first|((with_reducible first|apply rd_intro|apply gd_and);(focus ((conv=>whnf)<;>first|rfl|(intro K hK;(conv=>whnf);first|exact hK|exact z_wrap (by omega) hK)));conv=>whnf)|((with_reducible apply z_wrap);(focus omega);conv=>whnf)|((with_reducible first|apply mt_dec|apply mt_eq|apply mt_ne|apply mt_not|apply mt_any)<;>(intro _;conv=>whnf)))|(refine ACalls.mono (head_cmp m.head) ?_;rintro _ _ ⟨rfl,rfl⟩;(conv=>whnf))|(refine ACalls.mono (head_cmp m.cert) ?_;rintro _ _ ⟨rfl,rfl⟩;(conv=>whnf)))
     all_goals first
      | (rename_i e;exact absurd rfl e)
      | (rename_i e;replace e:m.digest≠0:=e;exact ⟨by rw [decide_eq_false (fun hh=>by have:=key.1 hh;omega)];rfl,rfl⟩)
      | exact ⟨by rw [decide_eq_false (fun hh=>by have:=key.1 hh;omega)];rfl,rfl⟩
      | (refine ⟨boolEq ?_,rfl⟩;rw [decide_eq_true_iff,key];simp only [beq_iff_eq];constructor<;>intro hh<;>omega)
      | (have hz:m.digest=0:=‹m.digest=if false=true then m.digest else 0›;refine ⟨boolEq ?_,rfl⟩;rw [decide_eq_true_iff,key];simp only [beq_iff_eq];constructor<;>intro hh<;>omega)
      | (have hz:m.digest=0:=‹m.digest=if false=true then m.digest else 0›;refine ⟨boolEq ?_,rfl⟩;rw [decide_eq_true_iff,key,beq_iff_eq];exact ⟨fun _=>by omega,fun _=>rfl⟩)
      | skip
   ·rw [decide_eq_false hok]
    rcases hfl with ⟨rfl,rfl,rfl,rfl,rfl⟩|⟨rfl,rfl,rfl,rfl,rfl⟩|⟨rfl,rfl,rfl,rfl,rfl⟩|⟨rfl,rfl,rfl,rfl,rfl⟩|⟨rfl,rfl,rfl,rfl,rfl⟩|⟨rfl,rfl,rfl,rfl,rfl⟩
    all_goals
     conv=>whnf
     refine rdw ?_;repeat' ((with_reducible apply tw)<;>intro _)
     exact ⟨by rw [decide_eq_false (fun h:okMsg n m=>hok h.ok)];rfl,rfl⟩
end Go.Proofs.YtolkmjfkkkiboaaGreat
namespace Go.Proofs.YtolkmjfkkkiboaaGreat
open Go Go.Ab Go.RowKit Go.Lib Go.Proofs Go.Shelf
set_option maxRecDepth 100000
end Go.Proofs.YtolkmjfkkkiboaaGreat
namespace Go.Proofs.YtolkmjfkkkiboaaGreat
open Go.Ab Go.RowKit Go.MapKept
attribute [local irreducible] ACalls AW ADraw Into fltB fnear
set_option maxRecDepth 100000
def ackI (l:List Int) (x:Int):Nat:=(l.filter fun y=>decide (y<x)).length
def ackP (l:List Int) (x:Int):List Int:=if x∈l then l else l.take (ackI l x)++x :: l.drop (ackI l x)
def votedP (p:Prim) (m:Msg):Prim:=if p.dig=0∨m.digest≠p.dig then p else certdP { p with acks:=ackP p.acks m.src }
def votedO (p:Prim) (m:Msg):List Msg:=if p.dig=0∨m.digest≠p.dig then [] else if doneP { p with acks:=ackP p.acks m.src } then tellO (clearP p) (certMsg (certP { p with acks:=ackP p.acks m.src })) [] p.nodes.toNat else []
structure CertdOk (p:Prim):Prop where
 cert:okCert p.dag.nodes (certP p)
 tiny:(certP p).tiny
 fine:Fine p.dag p.late
 room:p.dag.certs.length+p.late.length<60000
 ris:risingC p.late
def wantedL (d:Dag) (l:List Int):List Cert:=l.flatMap fun x=>((getC d.certs x).bind fun i=>d.certs[i]?).toList
def wantedO (p:Prim) (m:Msg) (k:Nat):List Msg:=(wantedL p.dag (m.digs.take k)).map fun c=>(certMsg c).told p m.src
end Go.Proofs.YtolkmjfkkkiboaaGreat
