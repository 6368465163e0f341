/- PrimaryExact: for every argument the law returns true, and its argument reads behind the call as it read before. No condition of ours. -/
import Derived.Test.YtolkmjfkkkiboaaGreatPrimaryExactCodZ
import Derived.Test.YtolkmjfkkkiboaaGreatRows
set_option linter.all false
set_option maxHeartbeats 4000000
set_option maxRecDepth 100000
namespace Go.Proofs.YtolkmjfkkkiboaaGreat
open Go.Ab Go.RowKit Go.MapKept
attribute [local irreducible] ay AW cw eA eo bL
open Classical in
theorem Nq (p:Prim) (bw:p.ok):zA 18 [p.av] [] (pQ (.k (if ec p then 0 else 1)) []):=by
 have h:=mj p bw;refine gG Tryz.func18 Tryz.ntmps18 ?_;refine h.mono ?_;rintro _ _ ⟨rfl,rfl⟩;by_cases k:ec p
 ·rw [cz k,bp k];refine rdv ?_;exact ⟨rfl,rfl⟩
 ·rw [aP k,aR k];refine rdv ?_;exact ⟨rfl,rfl⟩
def agV (s:iD) (q:Prim×Nat):AF×List AB:=([(1,.ptr 0 0),(3,.ptr 1 0),(5,.k q.2)],[.cells (s.cs.map AV.d),.cells (q.1.cs.map AV.d)])
def agW:a_:=⟨[[],[],[1],[],[3,1,2],[2,1,3,4],[4,3,1,2,5,0],[0,5,2,1,3,4,6],[6,4,3,1,2,5,0,7],[6,4,3,1,2,5,0,7],[],[7,0,5,2,1,3,4,6,8,10],[10,8,11,7,0,5,2,1,3,4,6,9]],[0,1,2,3,4,5],[(6,[7,8,9]),(10,[]),(11,[12])]⟩
def aaS:a_:=⟨[[],[],[1],[],[3,1,2],[2,1,3,4],[4,3,1,2,5,0],[0,5,2,1,3,4,6],[6,4,3,1,2,5,0,7],[6,4,3,1,2,5,0,7],[],[7,0,5,2,1,3,4,6,8,10],[10,8,11,7,0,5,2,1,3,4,6,9]],[0,1,2,3,4,5],[(10,[]),(6,[7,8,9]),(11,[12])]⟩
open Classical in
theorem zJ (s:iD) (hs:s.okk):zA 11 [s.av] [] (pQ (.d (.bool true)) []):=by
 have hh:=JZ s hs.oks;have bw:=hs.oks.ok;have Mz:=wC s.il;have adK:s.p.ok:=⟨bw.aK,by rw [hs.gh.2];exact br _,bw.aL,bw.aA,bw.aq,bw.late⟩;have WJ:=Nq s.p adK;have hmy:=yq s.p adK;refine gG Tryz.func11 Tryz.ntmps11 ?_;refine hh.mono ?_;rintro _ _ ⟨⟨b,rfl,hb⟩,rfl⟩
 cases b with
 | true =>
   refine rdv ?_;exact ⟨rfl,rfl⟩
 | false =>
   have bB:=hb rfl;have e1:=bB.aa;have e2:=bB.late;have e3:=bB.aA;have e4:=bB.aL;have e5:=bB.aK;have e6:=bB.il;have hpt:s.p.aJ:=⟨⟨by unfold aJ;omega,by unfold aJ;omega,by rw [hs.gh.2];exact br _⟩,oM,oM,⟨by unfold aJ;omega,λc hc=>(e1.2 c hc).all.2⟩,⟨by unfold aJ;omega,λc hc=>(e2.2 c hc).all.2⟩⟩;have MT:∀ c:Cert,c.jr->c.iF:=λc h=>⟨by have:=h.1;omega,by have:=h.2.1;omega,by have:=h.2.2;omega⟩;have hpm:s.p.aK.iF:=⟨oM,oM,by rw [hs.gh.2];exact br _⟩;have YD:s.p.iF:=⟨oM,oM,oM,oM,⟨oM,λc hc=>MT c (e1.2 c hc)⟩,⟨oM,λc hc=>MT c (e2.2 c hc)⟩⟩;have aaT:Fits (140+0) s.p:=⟨adK,hpt,YD,hpm,hs.gh,oM⟩;have BU:=dH s.p hpt;refine rdv ?_;refine aQ BU ?_;refine hmy.mono ?_;rintro _ _ ⟨rfl,rfl⟩;by_cases k:ec s.p
   ·rw [bp k] at WJ;rw [cz k];refine rdv ?_;refine aQ WJ ?_;refine aQ (ia _) ?_
    all_goals first|exact absurd rfl (by assumption)|skip
    refine aH aF bf aG (σ:=Prim×Nat) (agV s) (λq=>Fits (140+q.2) q.1/\q.2<=s.il.length/\q.2<=8) (λq=>s.il.length - q.2) [1,3,5] ?_ ?_
    ·conv=>whnf
     exact ⟨(s.p,0),rfl,rfl,aaT,br _,br _⟩
    ·rintro ⟨q,i⟩ ⟨hq,hi,h8⟩
     dsimp only at hq hi h8
     refine rdv ?_;repeat' (apply tw<;>intro _)
     ·have k1:(i:Int)<((qB s.il).length:Int):=aM;have k2:(i:Int)<8:=aM;refine eG s.il i λa Gg=>?_;have R3:=fU Gg;have eM:=e6.2 a R3;have vo:=KE (140+i) q hq oM a (hs.ints a R3).2 (hs.ints a R3).1 (by have:=eM.l;omega) ⟨by have:=eM.h.1;omega,by have:=eM.h.2;omega⟩ (zf eM.m (hs.hg a R3))
      (with_reducible refine oW aF bf aG cB agW aaS ?_ ?_)
      focus kernel_rfl
      conv=>whnf
      repeat' (first|(refine jz ?_)|((with_reducible apply aC);(focus (intro K hK;(conv=>whnf);exact ⟨oM,a.cs,by rw [WA,qB,CD,Gg];rfl,hK⟩));(conv=>whnf))|fail)
      constructor
      all_goals
       conv=>whnf
       repeat' (first|((with_reducible apply eT);(focus ((conv=>whnf);intro K hK;(conv=>whnf);exact ⟨oM,a.cs,by rw [WA,qB,CD,Gg];rfl,hK⟩));(conv=>whnf))|(refine jz ?_)|fail)
       refine vo.mono ?_;rintro _ _ ⟨⟨x,rfl,hx⟩,rfl⟩;have YG:=dH x hx.aJ;refine rdv ?_;refine aQ YG ?_;exact ⟨(x,i+1),rfl,rfl,⟨hx,by show i+1<=_;omega,by show i+1<=_;omega⟩,by show s.il.length - (i+1)<s.il.length - i;omega⟩
     all_goals
      refine aQ JX ?_;exact ⟨rfl,rfl⟩
   ·rw [aR k] at WJ;rw [aP k];refine rdv ?_;refine aQ WJ ?_;refine aQ (ia _) ?_
    all_goals first|exact absurd rfl (by assumption)|skip
    refine aH aF bf aG (σ:=Prim×Nat) (agV s) (λq=>Fits (140+q.2) q.1/\q.2<=s.il.length/\q.2<=8) (λq=>s.il.length - q.2) [1,3,5] ?_ ?_
    ·conv=>whnf
     exact ⟨(s.p,0),rfl,rfl,aaT,br _,br _⟩
    ·rintro ⟨q,i⟩ ⟨hq,hi,h8⟩
     dsimp only at hq hi h8
     refine rdv ?_;repeat' (apply tw<;>intro _)
     ·have k1:(i:Int)<((qB s.il).length:Int):=aM;have k2:(i:Int)<8:=aM;refine eG s.il i λa Gg=>?_;have R3:=fU Gg;have eM:=e6.2 a R3;have vo:=KE (140+i) q hq oM a (hs.ints a R3).2 (hs.ints a R3).1 (by have:=eM.l;omega) ⟨by have:=eM.h.1;omega,by have:=eM.h.2;omega⟩ (zf eM.m (hs.hg a R3))
      (with_reducible refine oW aF bf aG cB agW aaS ?_ ?_)
      focus kernel_rfl
      conv=>whnf
      repeat' (first|(refine jz ?_)|((with_reducible apply aC);(focus (intro K hK;(conv=>whnf);exact ⟨oM,a.cs,by rw [WA,qB,CD,Gg];rfl,hK⟩));(conv=>whnf))|fail)
      constructor
      all_goals
       conv=>whnf
       repeat' (first|((with_reducible apply eT);(focus ((conv=>whnf);intro K hK;(conv=>whnf);exact ⟨oM,a.cs,by rw [WA,qB,CD,Gg];rfl,hK⟩));(conv=>whnf))|(refine jz ?_)|fail)
       refine vo.mono ?_;rintro _ _ ⟨⟨x,rfl,hx⟩,rfl⟩;have YG:=dH x hx.aJ;refine rdv ?_;refine aQ YG ?_;exact ⟨(x,i+1),rfl,rfl,⟨hx,by show i+1<=_;omega,by show i+1<=_;omega⟩,by show s.il.length - (i+1)<s.il.length - i;omega⟩
     all_goals
      refine aQ JX ?_;exact ⟨rfl,rfl⟩
end Go.Proofs.YtolkmjfkkkiboaaGreat
/- PrimaryExact: for every argument the law returns true, and its argument reads behind the call as it read before. No condition of ours. -/
namespace Go.Proofs.YtolkmjfkkkiboaaGreat
open Go.Ab Go.RowKit Go.ChangeShapes Go.WideShapes Go.ChangeAt
theorem own:ownKnob Tryz.prog.godebug=none:=kR
theorem laidOut:laidOutB Tryz.prog=true:=kR
set_option maxRecDepth 100000 in
theorem tB (os:Os) (started:os.Started) (H:Type) (enc:TypeId×Value->H) :
  ReturnsInHanded {} Tryz.checked os 11 .any (Rows.primaryExactSpec.pre6 enc Tryz.prog Tryz.f11 Rows.primaryExactRow.domain false) (Rows.primaryExactSpec.post enc Tryz.prog Tryz.f11 false true false false):=by
 refine returnsInHanded_of_change_sized (C:=Tryz.checked) own started kR Tryz.func11
  (ChangeSpec.witness6 (enc:=enc) (C:=Tryz.checked) false ⟨#[],#[.agg #[.j 0,.j 0,.j 0,.j 0,.j 0,.j 0,.j 0,.slice none 0 0,.slice none 0 0,.j 0,.slice none 0 0,.slice none 0 0,.j 0,.j 0,.slice none 0 0,.slice none 0 0,.slice none 0 0]],[]⟩ 8 kR kR kR kR) ?_
 intro W base args ds gs before Ip hW _ da _;exact Gc aF (f:=Tryz.f11) (tb:=4) (t:=33) rfl rfl Tryz.underlying4 rfl (λ_ _=>rfl) laidOut kR (gQ kR) 8 kR XQ
  (λW base v ds h1 h2=>XR Tryz.underlying33 h1 h2)
  (λds hd=>by
    obtain ⟨p,hp,bw⟩:=YU hd;rw [hp];exact zJ p bw) Ip hW da
theorem jf1:Tryz.prog.inPlace 11=Rows.primaryExactRow.inPlace:=kR
theorem jf2:Tryz.prog.unfollowed 11=Rows.primaryExactRow.unfollowed:=kR
theorem jf3:Tryz.prog.recurses 11=Rows.primaryExactRow.recurses:=kR
theorem jf4:Tryz.prog.varsNamed 11=Rows.primaryExactRow.named:=kR
theorem jf5:mapsRowed Tryz.prog=true:=kR
theorem jf:joinedFacts Tryz.prog 11 Tryz.f11 Rows.primaryExactSpec Rows.primaryExactRow=true:=by
 unfold joinedFacts;rw [jf1,jf2,jf3,jf4,jf5,laidOut];kernel_rfl
theorem primaryExact_holds:Rows.PrimaryExactSaid :=
 OpenClaim.holds_of_wide 11 Tryz.f11 rfl rfl rfl rfl rfl rfl rfl ⟨rfl,rfl,rfl,rfl,rfl⟩ rfl rfl rfl rfl rfl kR Tryz.func11 jf
  (gQ kR) (by unfold Func.isWrapper;first|(rw [bp (by decide +kernel)];kernel_rfl)|(rw [aR (by decide +kernel)];exact ⟨rfl,rfl⟩))
  (λos started H enc _=>tB os started H enc)
#print axioms primaryExact_holds
end Go.Proofs.YtolkmjfkkkiboaaGreat
