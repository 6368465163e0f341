/- AuditDags: abstract runs. -/
import Derived.Test.YtodimgkpjnpbiaaGreatAuditDagsLyi
set_option linter.unusedVariables false
set_option linter.unusedSimpArgs false
namespace Go.Ab
open Go.RowKit
theorem acalls_nil3 {P:Program} {f:FuncId} {x a b:AV} {e n:Nat} (hn:RN e n) {post:AV→List AB→Prop} (h:ACalls P f [x,.agg [a,.arr 0,b]] [.row e n [] false] post):ACalls P f [x,.agg [a,.d .nils,b]] [] post:=by
 intro c vs hc hL hs hv
 obtain ⟨hs1,hle1⟩:=hs.nilRow hc e n false hn
 simp only [List.length_nil,List.nil_append] at hs1 hle1
 have hs2:SimH { c with E0:=Eupd c.E0 0 none,L0:=[.row e n [] false] } (Eupd c.E0 0 none) [.row e n [] false] c.w0 :=
  ⟨hs1.os,hs1.tape,hs1.output,hs1.size,hs1.prot,hs1.blk,hs1.low,hs1.inj,RC.le.refl _,hs1.bx⟩
 refine (h { c with E0:=Eupd c.E0 0 none,L0:=[.row e n [] false] } vs ⟨hc.low,hc.sub,hc.st⟩ rfl hs2 ?_).mono ?_
 ·simp only [VRt,VR,VRs,VD] at hv ⊢
  obtain ⟨u,us',h1,h2,u1,r1,rfl,⟨us,rfl,w1,s1,h3,o1,v1,w2,s2,rfl,o2,rfl,w3,s3,rfl,o3,v3,rfl⟩,rfl⟩:=hv
  refine ⟨u,_,h1,VR.mono hle1 _ _ h2,_,_,rfl,⟨us,rfl,w1,_,h3,o1,VR.mono hle1 _ _ v1,_,_,rfl,o2,?_,w3,_,rfl,o3,VR.mono hle1 _ _ v3,rfl⟩,rfl⟩
  exact ⟨_,rfl,by simp [arRel,Eupd]⟩
 ·rintro e w' ⟨v,av,L',E',h1,h2,h3,h4⟩
  refine ⟨v,av,L',E',h1,h2,⟨h3.os,h3.tape,h3.output,h3.size,h3.prot,h3.blk,h3.low,h3.inj,?_,h3.bx⟩,h4⟩
  rw [hL]
  exact hle1.trans h3.old
theorem acalls_post3 {P:Program} {f:FuncId} {avs:List AV} {Lin:List AB} {post post':AV→List AB→Prop} (h:ACalls P f avs Lin post)
  (hp:∀ av L,post av L→∃ av',post' av' L∧∀ (R:RC) (v:Value),VR R av v→VR R av' v):ACalls P f avs Lin post':=by
 intro c vs hc hL hs hv
 refine (h c vs hc hL hs hv).mono ?_
 rintro e w' ⟨v,av,L',E',h1,h2,h3,h4⟩
 obtain ⟨av',k1,k2⟩:=hp _ _ h2
 exact ⟨v,av',L',E',h1,k1,h3,k2 _ _ h4⟩
end Go.Ab
