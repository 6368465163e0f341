/- PrimaryStrange: contracts. -/
import Derived.Test.YtolkmjfkkkiboaaGreatPrimaryStrangeCodI
set_option linter.unusedVariables false
set_option linter.unusedSimpArgs false
namespace Go.Proofs.YtolkmjfkkkiboaaGreat
open Go.Ab Go.RowKit Go.MapKept
attribute [local irreducible] ACalls AW ADraw Into fltB fnear
set_option maxRecDepth 100000
end Go.Proofs.YtolkmjfkkkiboaaGreat
namespace Go.Proofs.YtolkmjfkkkiboaaGreat
open Go Go.Ab Go.RowKit Go.Shelf
attribute [local go_sem] Oper.semAt_some
end Go.Proofs.YtolkmjfkkkiboaaGreat
namespace Go.Proofs.YtolkmjfkkkiboaaGreat
open Go.Ab Go.RowKit Go.MapKept
attribute [local irreducible] ACalls AW ADraw Into fltB fnear
set_option maxRecDepth 100000
end Go.Proofs.YtolkmjfkkkiboaaGreat
namespace Go.Proofs.YtolkmjfkkkiboaaGreat
open Go.Ab Go.RowKit Go.MapKept
attribute [local irreducible] ACalls AW ADraw Into fltB fnear
set_option maxRecDepth 100000
def zPrim:List AV:=[.d (.int .i64 0),.d (.int .i64 0),.d (.int .i64 0),.d (.int .i64 0),.d (.int .i64 0),.d (.int .i64 0),.d (.int .i64 0),.d .nils,.d .nils,.d (.int .i64 0),.d .nils,.d .nils,.d (.int .i64 0),.d (.int .i64 0),.d .nils,.d .nils]
end Go.Proofs.YtolkmjfkkkiboaaGreat
namespace Go.Proofs.YtolkmjfkkkiboaaGreat
open Go.Ab Go.RowKit Go.MapKept
attribute [local irreducible] ACalls AW ADraw Into fltB fnear
set_option maxRecDepth 100000
end Go.Proofs.YtolkmjfkkkiboaaGreat
set_option linter.unusedVariables false
set_option linter.unusedSimpArgs false
namespace Go.Proofs.YtolkmjfkkkiboaaGreat
open Go.Ab Go.RowKit Go.MapKept
attribute [local irreducible] ACalls AW ADraw Into fltB fnear
set_option maxRecDepth 100000
def askMsg (q:Prim):Msg:=⟨4,0,0,q.dig,0,0,[],q.mine,cz0,[]⟩
end Go.Proofs.YtolkmjfkkkiboaaGreat
namespace Go.Proofs.YtolkmjfkkkiboaaGreat
open Go.Ab Go.RowKit Go.MapKept
attribute [local irreducible] ACalls AW ADraw Into fltB fnear
set_option maxRecDepth 100000
def lone:Prim:=newP 1 1
def loneH:Cert:=⟨1,1,[],[],0,[]⟩
theorem lone_bare:BareMay lone:=new_bare (by decide) (by decide)
theorem lone_fit:lone.dag.fit:=by
 exact ⟨by show (0:Nat)≤_;decide,List.Pairwise.nil,fun c h=>(by cases h),fun c h=>(by cases h)⟩
theorem lone_head:headC lone []=loneH:=by
 simp only [headC,parsF,lone,newP,loneH,ofR,batsF,List.foldl,List.filter,List.map,sortI]
 simp
theorem make1:ACalls Tryz.prog 44 [lone.av,.d (.sl 1 [])] [] (fun av L=>av = .tup [loneH.hav,.d (.int .i64 0)]∧L=[]):=by
 have h1:=primMay_true lone lone_bare
 have h2:=containsMk_ok [] few_nil
 have h3:=ready_ok lone lone_fit (by decide) (by decide)
 have h4:=headP_ok lone lone_fit (by decide) (by decide) [] few_nil
 rw [lone_head] at h4
 (refine acalls_go ttOk zOk foOk Tryz.func44 rfl Tryz.ntmps44 rfl false rfl ?_);(conv=>whnf)
 refine rdz ?_;repeat' ((with_reducible apply tw)<;>intro _)
 refine ACalls.mono (post:=fun av L=>av = .d (.bool true)∧L=[]) h1 ?_
 rintro _ _ ⟨rfl,rfl⟩
 conv=>whnf
 refine rdz ?_;repeat' ((with_reducible apply tw)<;>intro _)
 refine ACalls.mono (post:=fun av L=>av = .d (.bool false)∧L=[]) h2 ?_
 rintro _ _ ⟨rfl,rfl⟩
 conv=>whnf
 refine rdz ?_;repeat' ((with_reducible apply tw)<;>intro _)
 refine ACalls.mono (post:=fun av L=>av = .d (.bool true)∧L=[]) h3 ?_
 rintro _ _ ⟨rfl,rfl⟩
 conv=>whnf
 refine rdz ?_;repeat' ((with_reducible apply tw)<;>intro _)
 refine ACalls.mono (post:=fun av L=>av=loneH.hav∧L=[]) h4 ?_
 rintro _ _ ⟨rfl,rfl⟩
 conv=>whnf
 refine rdz ?_;repeat' ((with_reducible apply tw)<;>intro _)
 exact ⟨rfl,rfl⟩
def plSay8:Plan:=⟨[[],[],[],[],[],[],[],[6],[6,7],[7,6,8],[8,6,7,9],[],[11],[],[],[14],[14,15],[15,14,16],[16,14,15,17],[17,15,14,16,18],[17,15,14,16,18,11,12,9,7,6,8,10,5,0],[0,5,10,8,6,7,9,12,11,18,16,14,15,17,20],[20,17,15,14,16,18,11,12,9,7,6,8,10,5,0,21],[21,0,5,10,8,6,7,9,12,11,18,16,14,15,17,20,22],[23,22,21,20,17,15,14,16,18,11,12,10,9,8,7,6,5,0,1],[1,0,5,6,7,8,9,10,12,11,18,16,14,15,17,20,21,22,23,24],[24,23,22,21,20,17,15,14,16,18,11,12,10,9,8,7,6,5,0,1,25],[25,1,0,5,6,7,8,9,10,12,11,18,16,14,15,17,20,21,22,23,24,26],[27,26,25,24,23,22,21,20,17,15,14,16,18,12,11,10,9,8,7,6,5,1,0,2],[2,0,1,5,6,7,8,9,10,11,12,18,16,14,15,17,20,21,22,23,24,25,26,27,28],[28,27,26,25,24,23,22,21,20,17,15,14,16,18,12,11,10,9,8,7,6,5,1,0,2,29],[29,2,0,1,5,6,7,8,9,10,11,12,18,16,14,15,17,20,21,22,23,24,25,26,27,28,30],[31,30,29,28,27,26,25,24,23,22,21,20,17,15,14,16,18,13,12,11,10,9,8,7,6,5,2,1,0,3],[3,0,1,2,5,6,7,8,9,10,11,12,13,18,16,14,15,17,20,21,22,23,24,25,26,27,28,29,30,31,32],[32,31,30,29,28,27,26,25,24,23,22,21,20,17,15,14,16,18,13,12,11,10,9,8,7,6,5,2,1,0,3,33],[33,3,0,1,2,5,6,7,8,9,10,11,12,13,18,16,14,15,17,20,21,22,23,24,25,26,27,28,29,30,31,32,34],[35,34,33,32,31,30,29,28,27,26,25,24,23,22,21,20,19,18,17,16,15,14,13,12,11,10,9,8,7,6,5,3,2,1,0,4],[4,0,1,2,3,5,6,7,8,9,10,11,12,13,14,15,16,17,18,19,20,21,22,23,24,25,26,27,28,29,30,31,32,33,34,35,36],[36,35,34,33,32,31,30,29,28,27,26,25,24,23,22,21,20,19,18,17,16,15,14,13,12,11,10,9,8,7,6,5,3,2,1,0,4,37],[37,4,0,1,2,3,5,6,7,8,9,10,11,12,13,14,15,16,17,18,19,20,21,22,23,24,25,26,27,28,29,30,31,32,33,34,35,36,38]],[0,1,2,3,4,5,6,7,8,9,10,11,13,14,15,16,17,18,19],[(12,[20,21,22]),(23,[24,25,26]),(27,[28,29,30]),(31,[32,33,34]),(35,[36,37,38]),(39,[])]⟩
def lone2:Prim:={ lone with votes:=[⟨1,1,5⟩],said:=1,mine:=loneH,dig:=5,acks:=[1] }
def loneC:Cert:=⟨1,1,[],[],5,[1]⟩
def lone3:Prim:=⟨1,1,1,0,1,cz0,0,[],[⟨1,1,5⟩],⟨1,0,[loneC]⟩,[]⟩
theorem lone3_eq:certdP lone2=lone3:=by rfl
def loneM:Msg:=⟨4,0,0,5,0,0,[],loneH,cz0,[]⟩
theorem tell_none:tellO lone2 loneM [] lone2.nodes.toNat=[]:=by rfl
theorem tell_none2:(if doneP lone2 then tellO (clearP lone2) (certMsg (certP lone2)) [] lone2.nodes.toNat else [])=[]:=by rfl
theorem tiny_nil {α:Type}:tiny ([]:List α):=by show 0≤_;decide
theorem tiny_one {α:Type} (x:α):tiny [x]:=by show 1≤_;decide
theorem rise_nil (a b:Int):riseB [] a b:=⟨List.Pairwise.nil,fun x h=>(by cases h)⟩
theorem okH1:okHead 1 loneH:=⟨by rfl,by decide,by decide,⟨by decide,rise_nil 1 65536⟩,⟨by decide,rise_nil 1 65536⟩,fun _=>rfl,fun h=>absurd rfl h⟩
theorem okC1:okCert 1 loneC:=⟨⟨by rfl,by decide,by decide,⟨by decide,rise_nil 1 65536⟩,⟨by decide,rise_nil 1 65536⟩,fun _=>rfl,fun h=>absurd rfl h⟩,by decide,⟨List.pairwise_singleton ..,fun x h=>(by have:=List.mem_singleton.1 h;subst this;decide)⟩,by decide⟩
theorem tinyH1:loneH.tiny:=⟨tiny_nil,tiny_nil,tiny_nil⟩
theorem tinyC1:loneC.tiny:=⟨tiny_nil,tiny_nil,tiny_one 1⟩
theorem mayH1:ACalls Tryz.prog 92 [loneH.hav,.d (.int .i64 1)] [] (fun av L=>av = .d (.bool true)∧L=[]):=by
 refine (hMay_ok loneH ⟨few_nil,few_nil,few_nil⟩ 1).mono ?_
 rintro _ _ ⟨rfl,rfl⟩
 exact ⟨by simp [okH1],rfl⟩
set_option maxHeartbeats 2000000 in
theorem say1:ACalls Tryz.prog 93 [lone.av,loneH.hav,.d (.int .i64 5)] [] (fun av L=>av = .tup [lone3.av,.d (.sl 1 []),.d (.sl 18 []),.d (.int .i64 0)]∧L=[]):=by
 have h1:=ready_ok lone lone_fit (by decide) (by decide)
 have h2:=headP_ok lone lone_fit (by decide) (by decide) [] few_nil
 rw [lone_head] at h2
 have h3:=equal_ok [] [] few_nil
 have h4:=votePut_nil ⟨1,1,5⟩
 have h5:=own_ok loneH tinyH1
 have h6:=tell_ok lone2 (by decide) [] (by decide) loneM tinyH1 cz0_tiny [] few_nil
 rw [tell_none] at h6
 have h7:=certified_ok lone2 [] (by decide) (by decide) (fun _=>⟨okC1,tinyC1,⟨lone_bare.dag,by decide,fun c h=>(by cases h)⟩,by decide,List.Pairwise.nil⟩)
 rw [tell_none2,lone3_eq] at h7
 (refine acalls_go ttOk zOk foOk Tryz.func93 rfl Tryz.ntmps93 rfl false rfl ?_);(conv=>whnf)
 ((with_reducible refine draw_pl ttOk zOk foOk mixedOk pl93x1 ?_ ?_);(focus kernel_rfl);(conv=>whnf))
 refine rdw ?_;repeat' ((with_reducible apply tw)<;>intro _)
 refine ACalls.mono (post:=fun av L=>av = .d (.bool true)∧L=[]) h1 ?_
 rintro _ _ ⟨rfl,rfl⟩
 conv=>whnf
 refine rdw ?_;repeat' ((with_reducible apply tw)<;>intro _)
 refine ACalls.mono (post:=fun av L=>av=loneH.hav∧L=[]) h2 ?_
 rintro _ _ ⟨rfl,rfl⟩
 conv=>whnf
 refine rdw ?_;repeat' ((with_reducible apply tw)<;>intro _)
 refine ACalls.mono (post:=fun av L=>av = .d (.bool true)∧L=[]) h3 ?_
 rintro _ _ ⟨rfl,rfl⟩
 conv=>whnf
 refine rdw ?_;repeat' ((with_reducible apply tw)<;>intro _)
 refine ACalls.mono (post:=fun av L=>av = .tup [.d (.sl 3 (votesD [⟨1,1,5⟩])),.d (.int .i64 0)]∧L=[]) h4 ?_
 rintro _ _ ⟨rfl,rfl⟩
 conv=>whnf
 refine rdw ?_;repeat' ((with_reducible apply tw)<;>intro _)
 refine ACalls.mono (post:=fun av L=>av = .d (.sl 1 [])∧L=[]) (cloneI_ok [] (by decide)) ?_
 rintro _ _ ⟨rfl,rfl⟩
 conv=>whnf
 refine rdw ?_;repeat' ((with_reducible apply tw)<;>intro _)
 (with_reducible refine draw_pl ttOk zOk foOk mixedOk plSay8 ?_ ?_)
 focus kernel_rfl
 conv=>whnf
 refine rdw ?_;repeat' ((with_reducible apply tw)<;>intro _)
 refine ACalls.mono (post:=fun av L=>av=loneH.hav∧L=[]) h5 ?_
 rintro _ _ ⟨rfl,rfl⟩
 conv=>whnf
 refine rdw ?_;repeat' ((with_reducible apply tw)<;>intro _)
 refine (acalls_nw h6 (.cons (.refl _) (.cons (.agg ?_) (.cons (.refl _) .nil)))).mono ?_
 ·repeat (first|exact .nil|refine .cons (.refl _) ?_|refine .cons (.nils _ (by decide)) ?_)
 rintro _ _ ⟨rfl,j,rfl⟩
 cases j
 all_goals
  conv=>whnf
  refine rdw ?_;repeat' ((with_reducible apply tw)<;>intro _)
  refine h7.mono ?_
  rintro _ _ ⟨rfl,j,rfl⟩
  cases j
  all_goals
   conv=>whnf
   refine rdw ?_;repeat' ((with_reducible apply tw)<;>intro _)
   ((with_reducible refine draw_pl ttOk zOk foOk mixedOk pl93x11 ?_ ?_);(focus kernel_rfl);(conv=>whnf))
   refine rdw ?_;repeat' ((with_reducible apply tw)<;>intro _)
   exact ⟨rfl,rfl⟩
theorem May.fine {p:Prim} (h:May p) (hr:p.dag.certs.length+p.late.length≤60000):Fine p.dag p.late:=⟨h.dag,hr,fun c hc=>by
 rw [h.same]
 exact ⟨h.late.certs c hc,certTiny_of h.isn (h.late.certs c hc)⟩⟩
theorem okHead_tiny {n:Int} {c:Cert} (h:okHead n c):tiny c.bats∧tiny c.pars:=by
 have hnn:=of_decide_eq_true h.isn
 have h1:=h.bats.1
 have h2:=h.pars.1
 exact ⟨by unfold tiny;omega,by unfold tiny;omega⟩
theorem May.acks {p:Prim} (h:May p):riseB p.acks 1 p.nodes∧p.acks.length≤65536:=by
 have hnn:=of_decide_eq_true h.isn
 by_cases h0:p.dig=0
 ·rw [(h.mine.none h0).2.2.2.2]
  exact ⟨rise_nil _ _,by simp⟩
 ·exact ⟨h.mine.acks h0,riseN_len (h.mine.acks h0) ⟨by omega,by omega⟩⟩
theorem May.tiny {p:Prim} (h:May p) (hs:p.mine.sigs.length≤1099511627776):p.tiny:=by
 have hnn:=of_decide_eq_true h.isn
 have ha:=h.acks
 have hv:=h.votes.len
 have hd:=h.dag.len
 have hl:=h.late.len
 refine ⟨?_,by omega,by omega,⟨?_,fun c hc=>certTiny_of h.dag.nodes (h.dag.certs c hc)⟩,⟨?_,fun c hc=>certTiny_of h.isn (h.late.certs c hc)⟩⟩
 ·by_cases h0:p.dig=0
  ·obtain ⟨_,_,e1,e2,_⟩:=h.mine.none h0
   refine ⟨?_,?_,hs⟩
   ·rw [e1];exact tiny_nil
   ·rw [e2];exact tiny_nil
  ·have:=okHead_tiny (h.mine.head h0)
   exact ⟨this.1,this.2,hs⟩
 ·show p.dag.certs.length≤_
  omega
 ·show p.late.length≤_
  omega
theorem num20_ok (n:Int):ACalls Tryz.prog 17 [.d (.int .i64 n)] [] (fun av L=>av = .d (.int .i64 n)∧L=[]):=by
 (refine acalls_go ttOk zOk foOk Tryz.func17 rfl Tryz.ntmps17 rfl false rfl ?_);(conv=>whnf)
 refine rdw ?_;repeat' ((with_reducible apply tw)<;>intro _)
 exact ⟨rfl,rfl⟩
theorem lone_tiny:lone.tiny:=⟨⟨tiny_nil,tiny_nil,tiny_nil⟩,by decide,by decide,⟨tiny_nil,fun c h=>(by cases h)⟩,⟨tiny_nil,fun c h=>(by cases h)⟩⟩
theorem proposed1:ACalls Tryz.prog 49 [lone.av,loneH.hav,.d (.int .i64 5)] [] (fun av L=>av = .tup [lone3.av,.d (.sl 1 []),.d (.sl 18 []),.d (.int .i64 0)]∧L=[]):=by
 have h1:=primMay_true lone lone_bare
 have h2:=mayH1
 have h3:=primOwn_ok lone lone_tiny
 have h4:=say1
 (refine acalls_go ttOk zOk foOk Tryz.func49 rfl Tryz.ntmps49 rfl false rfl ?_);(conv=>whnf)
 refine rdw ?_;repeat' ((with_reducible apply tw)<;>intro _)
 refine ACalls.mono (post:=fun av L=>av = .d (.bool true)∧L=[]) h1 ?_
 rintro _ _ ⟨rfl,rfl⟩
 conv=>whnf
 refine rdw ?_;repeat' ((with_reducible apply tw)<;>intro _)
 refine (digest_ok 5).mono ?_
 rintro _ _ ⟨rfl,rfl⟩
 conv=>whnf
 refine rdw ?_;repeat' ((with_reducible apply tw)<;>intro _)
 refine ACalls.mono (post:=fun av L=>av = .d (.bool true)∧L=[]) h2 ?_
 rintro _ _ ⟨rfl,rfl⟩
 conv=>whnf
 refine rdw ?_;repeat' ((with_reducible apply tw)<;>intro _)
 ((with_reducible refine draw_pl ttOk zOk foOk mixedOk pl49x3 ?_ ?_);(focus kernel_rfl);(conv=>whnf))
 refine rdw ?_;repeat' ((with_reducible apply tw)<;>intro _)
 refine ACalls.mono (post:=fun av L=>av=lone.av∧L=[]) h3 ?_
 rintro _ _ ⟨rfl,rfl⟩
 conv=>whnf
 refine rdw ?_;repeat' ((with_reducible apply tw)<;>intro _)
 refine ACalls.mono (post:=fun av L=>av = .tup [lone3.av,.d (.sl 1 []),.d (.sl 18 []),.d (.int .i64 0)]∧L=[]) h4 ?_
 rintro _ _ ⟨rfl,rfl⟩
 conv=>whnf
 refine rdw ?_;repeat' ((with_reducible apply tw)<;>intro _)
 exact ⟨rfl,rfl⟩
theorem wakes_ok:ACalls Tryz.prog 20 [] [] (fun av L=>av = .d (.bool true)∧L=[]):=by
 have h1:=new_ok 1 1 (by decide) (by decide)
 have h2:=make1
 have h3:=proposed1
 (refine acalls_go ttOk zOk foOk Tryz.func20 rfl Tryz.ntmps20 rfl false rfl ?_);(conv=>whnf)
 refine rdw ?_;repeat' ((with_reducible apply tw)<;>intro _)
 refine ACalls.mono (post:=fun av L=>av = .tup [lone.av,.d (.int .i64 0)]∧L=[]) h1 ?_
 rintro _ _ ⟨rfl,rfl⟩
 conv=>whnf
 refine rdw ?_;repeat' ((with_reducible apply tw)<;>intro _)
 refine ACalls.mono (post:=fun av L=>av = .tup [loneH.hav,.d (.int .i64 0)]∧L=[]) h2 ?_
 rintro _ _ ⟨rfl,rfl⟩
 conv=>whnf
 refine rdw ?_;repeat' ((with_reducible apply tw)<;>intro _)
 refine ACalls.mono (post:=fun av L=>av = .tup [lone3.av,.d (.sl 1 []),.d (.sl 18 []),.d (.int .i64 0)]∧L=[]) h3 ?_
 rintro _ _ ⟨rfl,rfl⟩
 conv=>whnf
 refine rdw ?_;repeat' ((with_reducible apply tw)<;>intro _)
 iterate 3
  refine (num20_ok 0).mono ?_
  rintro _ _ ⟨rfl,rfl⟩
  conv=>whnf
  refine rdw ?_;repeat' ((with_reducible apply tw)<;>intro _)
 intro z hz
 have hz0:z=0:=hz
 subst hz0
 conv=>whnf
 refine rdw ?_;repeat' ((with_reducible apply tw)<;>intro _)
 exact ⟨rfl,rfl⟩
end Go.Proofs.YtolkmjfkkkiboaaGreat
