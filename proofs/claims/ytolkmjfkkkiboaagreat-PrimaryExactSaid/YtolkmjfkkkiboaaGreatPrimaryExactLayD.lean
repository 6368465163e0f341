/- PrimaryExact: abstract runs. -/
import Derived.Test.YtolkmjfkkkiboaaGreatPrimaryExactLayC
import Derived.MapKept
import GoSem.Instr.MapUpdate
import GoSem.Builtin.Delete
import Derived.Lib.AppendZerosOnto
import Derived.Laws.CopyRow
set_option linter.all false
set_option maxHeartbeats 1000000
namespace Go.Ab
noncomputable section
open Go.RowKit
def xF (ix:List Nat) (n0 base:Nat) (E E':Nat->Option Nat):Nat->Option Nat:=λi =>
 if base<=i then E' (n0+(i - base)) else match gO ix i 0 with|some j=>E' j|none=>E i
theorem ji {ix:List Nat} (fh:ix.Nodup) {i j:Nat} (h:ix[j]? = some i):gO ix i 0=some j:=by
 cases hp:gO ix i 0 with
 | some m =>
   obtain ⟨m',h1,h2⟩:=zS hp;rw [gP] at h2;subst h2;rw [xz fh h h1]
 | none =>
   exfalso;have key:∀ (l:List Nat) (k j:Nat),l[j]? = some i->gO l i k≠none:=by
    intro l
    induction l with
    | nil=>intro k j h;simp at h
    | cons a l ih =>
      intro k j h;simp only [gO]
      cases hb:Nat.beq a i with
      | true=>simp
      | false =>
        cases j with
        | zero=>simp at h;subst h;rw [Sc] at hb;cases hb
        | succ j=>exact ih (k+1) j (by simpa using h)
   exact key ix 0 j h hp
theorem SU {ix:List Nat} {i j:Nat} (h:gO ix i 0=some j):ix[j]? = some i:=by
 obtain ⟨m,h1,h2⟩:=zS h;rw [gP] at h2;rw [h2];exact h1
theorem DI {ix:List Nat} {i:Nat} (h:i∉ix):gO ix i 0=none:=by
 cases hp:gO ix i 0 with
 | none=>rfl
 | some j=>exact absurd (fU (SU hp)) h
theorem rz {P:Program} {f:FuncId} {c:Ctx} (hc:c.wf) {E:Nat->Option Nat} {L1:List AB} {w:World} (dR:aI c E L1 w) {FE:List AV} {K:AV->List AB->Prop} (h1:ry P f FE L1 K)
  {vs:Array Value} (uZ:cD (aj c.M0 E L1 w) FE vs.toList) :
  Calls P f vs w λe w'=>∃ v av E' L',e = .returned v/\K av L'/\aI c E' L' w'/\(aj c.M0 E L1 w).le (aj c.M0 E' L' w')/\VR (aj c.M0 E' L' w') av v:=by
 obtain ⟨ix0,h2⟩:=oJ _ _ _ h1;obtain ⟨ix,h3⟩:=oK h2
 cases abx:mM ix with
 | false=>rw [abx] at h3;exact h3.elim
 | true =>
   rw [abx] at h3;simp only [jB] at h3;have fh:=kr abx;split at h3
   ·rename_i PJ cg aie aby
    have h4:=HR (xC _ _ h3);clear h3 h2 h1;obtain ⟨hlen,eO⟩:=vw aby
    have SV:∀ i∈ix,i<L1.length:=by
     intro i hi;obtain ⟨j,hj⟩:=R8.1 hi;obtain ⟨ab,_,h5,_⟩:=eO j i hj;exact (dW.1 h5).1
    -- DE SW own ground
    let P0':Nat->Prop:=λb=>b<w.heap.size/\∀ (i:Nat) (ab:AB),i∈ix->L1[i]? = some ab->(ab.live=true->E i≠some b)/\b∉ab.boxes
    let PH:MZ:=⟨λb o=>P0' b/\G_ c.M0 E L1 b o,c.M0.s⟩
    have hP0:∀ b,c.P0 b->P0' b:=by
     intro b hb;refine ⟨kO (hc.low b hb) dR.size,λi ab hi bC=>⟨λhl he=>dR.low i ab b bC hl he hb,λmG=>dR.bx.low i ab b bC mG hb⟩⟩
    have hM:∀ b o,PH b o->G_ c.M0 E L1 b o:=λb o h=>h.2;have ja:=xA (w:=w) aby hM rfl;obtain ⟨jH,fb,aif,ae7⟩:=AM dR fh aby hM rfl
    let c':Ctx:={ w0:=w,P0:=P0',M0:=PH,E0:=oI E ix,L0:=cg,n:=0 }
    have kc:c'.wf:=⟨λb hb=>hb.1,λb o h=>h.1,λs hs b hb=>hP0 b (hc.st s hs b hb)⟩;have ae8:aI c' c'.E0 cg c'.w0:=by
     refine ⟨rfl,rfl,rfl,eQ _,λ_ _=>rfl,jH,?_,aif,.refl _,ae7 _ λb hp j ab hj hb=>?_⟩
     rotate_left
     ·have dM:j<ix.length:=by rw [<-hlen];exact (dW.1 hj).1
      obtain ⟨iS,fp,h3,h4,h5⟩:=eO j ix[j] (ff dM);rw [hj] at h4;cases h4
      exact (hp.2 ix[j] iS (zeM dM) h3).2 (by rw [<-(aS h5).boxes];exact hb)
     intro j ab b hj hl he hp;obtain ⟨i,cU,k1,k2,k3,k4⟩:=fb j ab b hj hl he;exact (hp.2 i cU (fU k1) k2).1 k3 k4
    have gp:cD (aj c'.M0 c'.E0 cg c'.w0) PJ vs.toList:=(oH ja FE PJ aie).2 _ uZ;refine (h4 c' vs kc rfl ae8 gp).mono ?_;rintro e w' ⟨v,av,Le,E',rfl,yG,xG,hvE⟩;clear h4;have yG:=l_ yG;split at yG
    ·rename_i Lo ny hLo aih;split at yG
     ·rename_i L2 pW;have hK:=NH _ _ (HR yG);clear yG;unfold SS at pW
      cases Lb:Nat.ble ix.length Lo.length with
      | false=>rw [Lb] at pW;cases pW
      | true =>
        rw [Lb] at pW;simp only [jB,ke] at pW;have ae9:ix.length<=Lo.length:=Hh Lb;obtain ⟨aii,Lf⟩:=NJ hLo
        let E2:=xF ix ix.length L1.length E E'
        have hSl:(xE ix Lo L1).length=L1.length:=yF ix Lo L1
        -- SX aij at each number
        have look:∀ i ab,L2[i]? = some ab->(∃ j cU,Le[j]? = some cU/\gn (RQ ix L1.length) cU=some ab/\E2 i=E' j/\RQ ix L1.length j=some i)∨(i∉ix/\L1[i]? = some ab/\E2 i=E i):=by
         intro i ab hi;rw [<-pW] at hi;rcases qZ i L1.length with bB|rl
         ·rw [CK (by rw [hSl];exact bB)] at hi;by_cases Xl:i∈ix
          ·obtain ⟨j,hj⟩:=R8.1 Xl;rw [FD ix Lo L1 fh SV ae9 j i hj] at hi;obtain ⟨cU,h5,h6⟩:=Lf j ab hi;refine .inl ⟨j,cU,h5,h6,?_,by simp only [RQ,hj]⟩;show xF ix ix.length L1.length E E' i=_;unfold xF;rw [aR oM,ji fh hj]
          ·rw [pV ix Lo L1 i Xl] at hi;refine .inr ⟨Xl,hi,?_⟩;show xF ix ix.length L1.length E E' i=_;unfold xF;rw [aR oM,DI Xl]
         ·rw [Ww (by rw [hSl];exact rl),hSl,Dt] at hi;obtain ⟨cU,h5,h6⟩:=Lf _ ab hi;refine .inl ⟨ix.length+(i - L1.length),cU,h5,h6,?_,?_⟩
          ·show xF ix ix.length L1.length E E' i=_;unfold xF;rw [bp rl]
          ·have hn:ix[ix.length+(i - L1.length)]? = none:=by rw [Ns oM]
           simp only [RQ,hn];congr 1;omega
        -- and back
        have back:∀ j i,RQ ix L1.length j=some i->∀ cU,Le[j]? = some cU->∃ ab,L2[i]? = some ab/\gn (RQ ix L1.length) cU=some ab/\E2 i=E' j:=by
         intro j i cA cU mN;have dM:j<Lo.length:=by rw [aii];exact (dW.1 mN).1
         have ZV:L2[i]? = Lo[j]? /\ E2 i=E' j:=by
          unfold RQ at cA;split at cA
          ·rename_i i' xe
           cases cA
           have eL:=SV i (fU xe);constructor
           ·rw [<-pW,CK (by rw [hSl];exact eL),FD ix Lo L1 fh SV ae9 j i xe]
           ·show xF ix ix.length L1.length E E' i=_;unfold xF;rw [aR oM,ji fh xe]
          ·rename_i hn
           cases cA
           have rl:ix.length<=j:=by
            rcases qZ j ix.length with h|h
            ·rw [ff h] at hn;cases hn
            ·exact h
           constructor
           ·rw [<-pW,Ww (by rw [hSl];omega),hSl,Dt];congr 1;omega
           ·show xF ix ix.length L1.length E E' _=_;unfold xF;rw [bp oM];congr 1;omega
         rw [ZV.1];obtain ⟨iS,h5,h6⟩:=Lf j Lo[j] (ff dM);rw [mN] at h5;cases h5
         exact ⟨Lo[j],ff dM,h6,ZV.2⟩
        -- SX may change behind DE call akx have changed for DE callee
        have Hs:∀ b o,G_ c.M0 E2 L2 b o->G_ PH E' Le b o:=by
         rintro b o (hm|⟨i,ab,hi,he,hm⟩|⟨i,ab,hi,hm⟩)
         ·exact .inl ⟨hP0 b (hc.sub b o hm),.inl hm⟩
         rotate_left
         ·rcases look i ab hi with ⟨j,cU,k1,k2,k3,k4⟩|⟨k1,k2,k3⟩
          ·exact .inr (.inr ⟨j,cU,k1,by rw [<-(aS k2).boxes];exact hm⟩)
          ·refine .inl ⟨⟨dR.blt k2 hm,λi2 fp HT gq=>⟨λkj pz=>dR.bx.own i i2 ab fp b k2 hm gq kj pz,λiR=>?_⟩⟩,.inr (.inr ⟨i,ab,k2,hm⟩)⟩;exact k1 (by rw [dR.bx.dj i i2 ab fp b k2 gq hm iR];exact HT)
         ·rcases look i ab hi with ⟨j,cU,k1,k2,k3,k4⟩|⟨k1,k2,k3⟩
          ·exact .inr (.inl ⟨j,cU,k1,by rw [<-k3];exact he,((aS k2).mut o).1 hm⟩)
          ·rw [k3] at he;have hl:=AB.Ar hm;refine .inl ⟨⟨dR.lt k2 hl he,λi2 fp HT gq=>⟨λkj pz=>?_,λiR=>dR.bx.own i2 i fp ab b gq iR k2 hl he⟩⟩,.inr (.inl ⟨i,ab,k2,he,hm⟩)⟩;exact k1 (by rw [dR.inj i i2 ab fp b k2 gq hl kj he pz];exact HT)
        have ga:∀ a u,(aj PH E' Le w').rd a u->(aj c.M0 E2 L2 w').rd a u:=ug rfl (.refl _) λa u h1 h2=>⟨h1,λhm=>h2 (Hs _ _ hm)⟩;have sD:yE (aj PH E' Le w') (aj c.M0 E2 L2 w') (RQ ix L1.length):=by
         refine ⟨ga,?_,?_,?_,?_⟩
         rotate_right
         ·intro j i cA x v ⟨cU,k1,k2⟩;obtain ⟨ab,m1,m2,m3⟩:=back j i cA cU k1;exact ⟨ab,m1,(aS m2).is k2⟩
         ·intro j i cA b ⟨cU,k1,k2,k3⟩;obtain ⟨ab,m1,m2,m3⟩:=back j i cA cU k1;exact ⟨ab,m1,by rw [(aS m2).gB];exact k2,by rw [m3];exact k3⟩
         ·intro j i cA v ⟨cU,k1,k2⟩;obtain ⟨ab,m1,m2,m3⟩:=back j i cA cU k1;exact ⟨ab,m1,(aS m2).ar m3 k2⟩
         ·intro j i cA k o v ⟨cU,k1,k2⟩;obtain ⟨ab,m1,m2,m3⟩:=back j i cA cU k1;exact ⟨ab,m1,(aS m2).ap m3 k2⟩
        -- a block SI is none of DE SW has not aik
        have Fi:∀ i ab b,i∉ix->L1[i]? = some ab->ab.live=true->E i=some b->w'.heap[b]? = w.heap[b]? := by
         intro i ab b hi bC hl he;refine xG.gS b ⟨dR.lt bC hl he,λi2 fp HT gq=>⟨λkj pz=>?_,λiR=>dR.bx.own i2 i fp ab b gq iR bC hl he⟩⟩;exact hi (by rw [dR.inj i i2 ab fp b bC gq hl kj he pz];exact HT)
        have NL:∀ i ab b,i∉ix->L1[i]? = some ab->b∈ab.boxes->w'.heap[b]? = w.heap[b]? := by
         intro i ab b hi bC hb;refine xG.gS b ⟨dR.blt bC hb,λi2 fp HT gq=>⟨λkj pz=>dR.bx.own i i2 ab fp b bC hb gq kj pz,λiR=>?_⟩⟩;exact hi (by rw [dR.bx.dj i i2 ab fp b bC gq hb iR];exact HT)
        have FF:∀ i,i∉ix->∀ ab,L1[i]? = some ab->L2[i]? = some ab/\E2 i=E i:=by
         intro i hi ab bC;have eL:i<L1.length:=(dW.1 bC).1;constructor
         ·rw [<-pW,CK (by rw [hSl];exact eL),pV ix Lo L1 i hi];exact bC
         ·show xF ix ix.length L1.length E E' i=_;unfold xF;rw [aR oM,DI hi]
        have ZW:∀ j i,ix[j]? = some i->RQ ix L1.length j=some i:=by
         intro j i h;simp only [RQ,h]
        -- SX was true of DE ae_ own values is true still
        have hle:(aj c.M0 E L1 w).le (aj c.M0 E2 L2 w'):=by
         refine ⟨?_,?_,?_,?_,?_⟩
         rotate_right
         ·rintro i x v ⟨ab,k1,k2⟩;by_cases hi:i∈ix
          ·obtain ⟨j,hj⟩:=R8.1 hi;exact sD.is j i (ZW j i hj) x v (xG.q_.is j x v (ja.is i j (ji fh hj) x v ⟨ab,k1,k2⟩))
          ·obtain ⟨m1,m2⟩:=FF i hi ab k1;exact ⟨ab,m1,fV (λb hb=>NL i ab b hi k1 hb) k2⟩
         ·intro a u h;exact ga a u (xG.q_.rd a u (ja.rd a u h))
         ·rintro i b ⟨ab,k1,k2,k3⟩;by_cases hi:i∈ix
          ·obtain ⟨j,hj⟩:=R8.1 hi;exact sD.pt j i (ZW j i hj) b (xG.q_.pt j b (ja.pt i j (ji fh hj) b ⟨ab,k1,k2,k3⟩))
          ·obtain ⟨m1,m2⟩:=FF i hi ab k1;exact ⟨ab,m1,k2,by rw [m2];exact k3⟩
         ·rintro i v ⟨ab,k1,k2⟩;by_cases hi:i∈ix
          ·obtain ⟨j,hj⟩:=R8.1 hi;exact sD.ar j i (ZW j i hj) v (xG.q_.ar j v (ja.ar i j (ji fh hj) v ⟨ab,k1,k2⟩))
          ·obtain ⟨m1,m2⟩:=FF i hi ab k1;refine ⟨ab,m1,?_⟩
           cases ab with
           | cells cs=>simp only [bj] at k2 ⊢;rw [m2];exact k2
           | map es=>exact k2.elim
           | cK b cs=>exact k2.elim
           | obj o=>exact k2.elim
           | qJ o n cap=>simp only [bj] at k2 ⊢;rw [m2];exact k2
           | aN lo n ok=>exact k2.elim
           | dead=>exact k2
           | row e n xs sh =>
             simp only [bj,m2] at k2 ⊢
             cases hE:E i with
             | none=>rw [hE] at k2;exact k2
             | some b =>
               rw [hE] at k2;obtain ⟨cap,cur,q1,q2,q3⟩:=k2;exact ⟨cap,cur,q1,by rw [Fi i _ b hi k1 rfl hE];exact q2,q3⟩
         ·rintro i k o v ⟨ab,k1,k2⟩;by_cases hi:i∈ix
          ·obtain ⟨j,hj⟩:=R8.1 hi;exact sD.ap j i (ZW j i hj) k o v (xG.q_.ap j k o v (ja.ap i j (ji fh hj) k o v ⟨ab,k1,k2⟩))
          ·obtain ⟨m1,m2⟩:=FF i hi ab k1;refine ⟨ab,m1,?_⟩
           cases ab with
           | cells cs=>exact k2.elim
           | map es=>exact k2.elim
           | cK b cs=>exact k2.elim
           | obj o=>exact k2.elim
           | qJ o n cap=>exact k2.elim
           | aN lo n ok=>exact k2.elim
           | dead=>exact k2
           | row e n xs sh=>simp only [mF,m2] at k2 ⊢;exact k2
        refine ⟨v,ny,E2,L2,rfl,hK,?_,hle,jJ sD av ny aih v hvE⟩;refine ⟨xG.os.trans dR.os,xG.tape.trans dR.tape,xG.output.trans dR.output,fS dR.size xG.size,?_,?_,?_,?_,dR.q_.trans hle,?_⟩
        ·intro b hb;rw [xG.gS b (hP0 b hb)];exact dR.gS b hb
        ·intro i ab hi;rcases look i ab hi with ⟨j,cU,k1,k2,k3,k4⟩|⟨k1,k2,k3⟩
         ·rw [k3];exact HQ sD k2 (xG.fQ j cU k1)
         ·rw [k3];exact BR.mono hle (dR.fQ i ab k2) (λb he hl=>Fi i ab b k1 k2 hl he) λb hb=>NL i ab b k1 k2 hb
        ·intro i ab b hi hl he hp;rcases look i ab hi with ⟨j,cU,k1,k2,k3,k4⟩|⟨k1,k2,k3⟩
         ·rw [k3] at he;exact xG.low j cU b k1 (by rw [<-(aS k2).live];exact hl) he (hP0 b hp)
         ·rw [k3] at he;exact dR.low i ab b k2 hl he hp
        ·intro i1 i2 iS fp b Xm HT sy kj Fg pz;rcases look i1 iS Xm with ⟨j1,a1,k1,k2,k3,k4⟩|⟨k1,k2,k3⟩<;>rcases look i2 fp HT with ⟨j2,a2,m1,m2,m3,m4⟩|⟨m1,m2,m3⟩
         ·rw [k3] at Fg;rw [m3] at pz;have:=xG.inj j1 j2 a1 a2 b k1 m1 (by rw [<-(aS k2).live];exact sy) (by rw [<-(aS m2).live];exact kj) Fg pz;subst this;rw [k4] at m4;cases m4;rfl
         ·rw [k3] at Fg;rw [m3] at pz;exfalso;refine xG.low j1 a1 b k1 (by rw [<-(aS k2).live];exact sy) Fg ⟨dR.lt m2 kj pz,λi3 ab3 hi3 SY=>⟨λWH he3=>?_,λHH=>dR.bx.own i3 i2 ab3 fp b SY HH m2 kj pz⟩⟩;exact m1 (by rw [dR.inj i2 i3 fp ab3 b m2 SY kj WH pz he3];exact hi3)
         ·rw [k3] at Fg;rw [m3] at pz;exfalso;refine xG.low j2 a2 b m1 (by rw [<-(aS m2).live];exact kj) pz ⟨dR.lt k2 sy Fg,λi3 ab3 hi3 SY=>⟨λWH he3=>?_,λHH=>dR.bx.own i3 i1 ab3 iS b SY HH k2 sy Fg⟩⟩;exact k1 (by rw [dR.inj i1 i3 iS ab3 b k2 SY sy WH Fg he3];exact hi3)
         ·rw [k3] at Fg;rw [m3] at pz;exact dR.inj i1 i2 iS fp b k2 m2 sy kj Fg pz
        · -- owned blocks
          have abA:∀ i ab b,i∉ix->L1[i]? = some ab->b∈ab.boxes->P0' b:=by
           intro i ab b hi bC hb;refine ⟨dR.blt bC hb,λi2 fp HT gq=>⟨λkj pz=>dR.bx.own i i2 ab fp b bC hb gq kj pz,λiR=>?_⟩⟩;exact hi (by rw [dR.bx.dj i i2 ab fp b bC gq hb iR];exact HT)
          have ain:∀ i ab b,i∉ix->L1[i]? = some ab->ab.live=true->E i=some b->P0' b:=by
           intro i ab b hi bC hl he;refine ⟨dR.lt bC hl he,λi2 fp HT gq=>⟨λkj pz=>?_,λiR=>dR.bx.own i2 i fp ab b gq iR bC hl he⟩⟩;exact hi (by rw [dR.inj i i2 ab fp b bC gq hl kj he pz];exact HT)
          refine ⟨?_,?_,?_,?_⟩
          ·intro i ab b hi hb hp;rcases look i ab hi with ⟨j,cU,k1,k2,k3,k4⟩|⟨k1,k2,k3⟩
           ·exact xG.bx.low j cU b k1 (by rw [<-(aS k2).boxes];exact hb) (hP0 b hp)
           ·exact dR.bx.low i ab b k2 hb hp
          ·intro i1 i2 iS fp b Xm hb HT kj pz;rcases look i1 iS Xm with ⟨j1,a1,k1,k2,k3,k4⟩|⟨k1,k2,k3⟩<;>rcases look i2 fp HT with ⟨j2,a2,m1,m2,m3,m4⟩|⟨m1,m2,m3⟩
           ·rw [m3] at pz;exact xG.bx.own j1 j2 a1 a2 b k1 (by rw [<-(aS k2).boxes];exact hb) m1 (by rw [<-(aS m2).live];exact kj) pz
           ·rw [m3] at pz;exact xG.bx.low j1 a1 b k1 (by rw [<-(aS k2).boxes];exact hb) (ain i2 fp b m1 m2 kj pz)
           ·rw [m3] at pz;exact xG.low j2 a2 b m1 (by rw [<-(aS m2).live];exact kj) pz (abA i1 iS b k1 k2 hb)
           ·rw [m3] at pz;exact dR.bx.own i1 i2 iS fp b k2 hb m2 kj pz
          ·intro i ab hi;rcases look i ab hi with ⟨j,cU,k1,k2,k3,k4⟩|⟨k1,k2,k3⟩
           ·rw [(aS k2).boxes];exact xG.bx.nd j cU k1
           ·exact dR.bx.nd i ab k2
          ·intro i1 i2 iS fp b Xm HT eS iR;rcases look i1 iS Xm with ⟨j1,a1,k1,k2,k3,k4⟩|⟨k1,k2,k3⟩<;>rcases look i2 fp HT with ⟨j2,a2,m1,m2,m3,m4⟩|⟨m1,m2,m3⟩
           ·have:=xG.bx.dj j1 j2 a1 a2 b k1 m1 (by rw [<-(aS k2).boxes];exact eS) (by rw [<-(aS m2).boxes];exact iR);subst this;rw [k4] at m4;cases m4;rfl
           ·exact absurd (abA i2 fp b m1 m2 iR) (xG.bx.low j1 a1 b k1 (by rw [<-(aS k2).boxes];exact eS))
           ·exact absurd (abA i1 iS b k1 k2 eS) (xG.bx.low j2 a2 b m1 (by rw [<-(aS m2).boxes];exact iR))
           ·exact dR.bx.dj i1 i2 iS fp b k2 m2 eS iR
     ·exact yG.elim
    ·exact yG.elim
   ·exact h3.elim
theorem SZ {P:Program} {f:FuncId} {c:Ctx} (hc:c.wf) {E:Nat->Option Nat} {L:List AB} {w:World} (hs:aI c E L w) {cS:List AV} {K:AV->List AB->Prop} (h:NK P f cS L K)
  {vs:Array Value} (hv:cD (aj c.M0 E L w) cS vs.toList) :
  Calls P f vs w λe w'=>∃ v av E' L',e = .returned v/\K av L'/\aI c E' L' w'/\(aj c.M0 E L w).le (aj c.M0 E' L' w')/\VR (aj c.M0 E' L' w') av v:=by
 obtain ⟨FE,L1,h1,dR,eX,uZ⟩:=vx hc hs h hv;refine (rz hc dR h1 uZ).mono ?_;rintro e w' ⟨v,av,E',L',k1,k2,k3,k4,k5⟩;exact ⟨v,av,E',L',k1,k2,k3,eX.trans k4,k5⟩
end
noncomputable section
open Go.RowKit Go.MapKept
def mb:MV->List Nat
 | .box b _=>[b]
 | .v _=>[]
theorem cv (p:KV×MV) (r:List (KV×MV)):bg (p :: r)=mb p.2++bg r:=by
 obtain ⟨k,m⟩:=p
 cases m<;>rfl
theorem ob:∀ (l r:List (KV×MV)),bg (l++r)=bg l++bg r
 | [],r=>by simp [bg]
 | p :: l,r=>by rw [KX,cv,cv,ob l r,uf]
theorem AO {rd:Addr->Value->Prop} {w:World}:∀ {es:List (KV×MV)} {us:List MapEntry},kf rd w es us->us.length=es.length
 | [],us,hv=>by simp only [kf] at hv;subst hv;rfl
 | (k,m) :: r,us,hv=>by
   simp only [kf] at hv;obtain ⟨u,dt,rfl,h1,h2,h3⟩:=hv;simp [AO (es:=r) h3]
theorem NM {rd:Addr->Value->Prop} {w:World} {k:KV} {m:MV} {u':MapEntry} (hk:xi rd k u'.key) (hm:VMV rd w m u'.val):∀ {es:List (KV×MV)} {us:List MapEntry},kf rd w es us->∀ (j:Nat),kf rd w (es.set j (k,m)) (us.set j u')
 | [],us,hv,j=>by simp only [kf] at hv;subst hv;simp [kf]
 | (k0,m0) :: r,us,hv,j=>by
   simp only [kf] at hv;obtain ⟨u,dt,rfl,h1,h2,h3⟩:=hv
   cases j with
   | zero=>simp only [WQ,kf];exact ⟨_,_,rfl,hk,hm,h3⟩
   | succ j=>simp only [zdU,kf];exact ⟨_,_,rfl,h1,h2,NM hk hm (es:=r) h3 j⟩
theorem DJ {rd:Addr->Value->Prop} {w:World}:∀ {es:List (KV×MV)} {us:List MapEntry},kf rd w es us->∀ (j:Nat),kf rd w (es.eraseIdx j) (us.eraseIdx j)
 | [],us,hv,j=>by simp only [kf] at hv;subst hv;simp [kf]
 | (k0,m0) :: r,us,hv,j=>by
   simp only [kf] at hv;obtain ⟨u,dt,rfl,h1,h2,h3⟩:=hv
   cases j with
   | zero=>simpa using h3
   | succ j=>simp only [zfC,kf];exact ⟨_,_,rfl,h1,h2,DJ (es:=r) h3 j⟩
theorem HU {rd:Addr->Value->Prop} {w:World} {k:KV} {m:MV} {u':MapEntry} (hk:xi rd k u'.key) (hm:VMV rd w m u'.val):∀ {es:List (KV×MV)} {us:List MapEntry},kf rd w es us->kf rd w (es++[(k,m)]) (us++[u'])
 | [],us,hv=>by simp only [kf] at hv;subst hv;simp only [tC,kf];exact ⟨_,_,rfl,hk,hm,rfl⟩
 | (k0,m0) :: r,us,hv=>by
   simp only [kf] at hv;obtain ⟨u,dt,rfl,h1,h2,h3⟩:=hv;simp only [KX,kf];exact ⟨_,_,rfl,h1,h2,HU hk hm (es:=r) h3⟩
theorem aI.S0 {c:Ctx} {E:Nat->Option Nat} {L L':List AB} {w:World} (h:aI c E L w) {i:Nat} {es es':List (KV×MV)} {b:Nat} {eR ents':Array MapEntry} {clock clock':Nat}
  (hi:L[i]? = some (.map es)) (hE:E i=some b) (hh:w.heap[b]? = some (.map eR clock))
  (look:∀ (j:Nat) (ab:AB),L'[j]? = some ab->(j=i/\ab = .map es')∨(j≠i/\L[j]? = some ab)∨(j≠i/\(ab = .dead∨∃ b1 cs,ab = .cK b1 cs/\rj (aj c.M0 E L w).rd w b1 cs)))
  (xe:L'[i]? = some (.map es')) (AP:∀ (j:Nat) (ab:AB),L[j]? = some ab->j≠i->(ab.live=true∨ab = .dead∨∃ lo n ok,ab = .aN lo n ok)->L'[j]? = some ab)
  (src:∀ (j:Nat) (ab:AB) (x:Nat),L'[j]? = some ab->x∈ab.boxes->∃ (j0:Nat) (cU:AB),L[j0]? = some cU/\x∈cU.boxes)
  (nd:∀ (j:Nat) (ab:AB),L'[j]? = some ab->ab.boxes.Nodup) (dj:∀ (j k:Nat) (ab bQ:AB) (x:Nat),L'[j]? = some ab->L'[k]? = some bQ->x∈ab.boxes->x∈bQ.boxes->j=k)
  (hv:kf (aj c.M0 E L w).rd w es' ents'.toList) (nG:(ents'.toList.map (·.born)).Pairwise (· < ·)) (iz:∀ x∈ents'.toList,x.born<clock') :
  aI c E L' { w with heap:=w.heap.setIfInBounds b (.map ents' clock') }/\(aj c.M0 E L w).le (aj c.M0 E L' { w with heap:=w.heap.setIfInBounds b (.map ents' clock') }):=by
 have FG:=heap_set (o' := .map ents' clock') hh;have jH:∀ x,x≠b->(w.heap.setIfInBounds b (.map ents' clock'))[x]? = w.heap[x]? := λx hx=>FG.2 x hx;have RR:∀ x (j0:Nat) (cU:AB),L[j0]? = some cU->x∈cU.boxes->x≠b:=λx j0 cU h0 hx he=>h.bx.own j0 i cU _ x h0 hx hi rfl (he▸hE);have hle:(aj c.M0 E L w).le (aj c.M0 E L' { w with heap:=w.heap.setIfInBounds b (.map ents' clock') }):=by
  refine ⟨?_,?_,?_,?_,?_⟩
  rotate_right
  ·rintro j x v ⟨cN,h1,h2⟩;have cA:j≠i:=by
    rintro rfl;rw [hi] at h1;cases h1
    exact h2.elim
   refine ⟨cN,AP j cN h1 cA (.inr (.inr (pG h2))),fV (λb1 eS=>jH b1 (RR b1 j cN h1 eS)) h2⟩
  ·refine ug rfl (iG.Hr jH λ_ _ _ h=>by rw [hh] at h;cases h) ?_;rintro a u h1 h2;have bC:a.block≠b:=λhe=>h2 (.inr (.inl ⟨i,_,hi,by rw [hE,he],trivial⟩));refine ⟨by rw [World.cell?_of_block (w:=w) (jH a.block bC)];exact h1,?_⟩;rintro (uY|⟨j,cN,hj,he,Hy⟩|⟨j,cN,hj,Hy⟩)
   ·exact h2 (.inl uY)
   ·rcases look j cN hj with ⟨rfl,rfl⟩|⟨_,j6⟩|⟨_,rfl|⟨b1,cs,rfl,_⟩⟩
    ·exact h2 (.inr (.inl ⟨_,_,hi,he,trivial⟩))
    ·exact h2 (.inr (.inl ⟨_,_,j6,he,Hy⟩))
    ·exact Hy
    ·exact Hy
   ·obtain ⟨j0,cU,k1,k2⟩:=src j cN _ hj Hy;exact h2 (.inr (.inr ⟨j0,cU,k1,k2⟩))
  ·rintro j x ⟨cN,h1,h2,h3⟩;by_cases cA:j=i
   ·subst cA;exact ⟨_,xe,rfl,h3⟩
   ·exact ⟨cN,AP j cN h1 cA (.inl (by cases cN<;>first|rfl|cases h2)),h2,h3⟩
  ·rintro j v ⟨cN,h1,h2⟩;by_cases cA:j=i
   ·subst cA;rw [hi] at h1;cases h1
    exact h2.elim
   ·cases cN with
    | cells cs=>exact ⟨_,AP j _ h1 cA (.inl rfl),h2⟩
    | map es=>exact h2.elim
    | cK b cs=>exact h2.elim
    | obj o=>exact h2.elim
    | qJ o n cap=>exact ⟨_,AP j _ h1 cA (.inl rfl),h2⟩
    | aN lo n ok=>exact h2.elim
    | dead=>exact ⟨_,AP j _ h1 cA (.inr (.inl rfl)),h2⟩
    | row e n xs sh =>
      refine ⟨_,AP j _ h1 cA (.inl rfl),?_⟩;simp only [bj] at h2 ⊢
      cases hEj:E j with
      | none=>rw [hEj] at h2;exact h2
      | some x =>
        rw [hEj] at h2;obtain ⟨cap,fx,h3,h4,h5⟩:=h2;exact ⟨cap,fx,h3,(jH x (λhe=>cA (h.inj j i _ _ b h1 hi rfl rfl (he▸hEj) hE))).trans h4,h5⟩
  ·rintro j x o v ⟨cN,h1,h2⟩;by_cases cA:j=i
   ·subst cA;rw [hi] at h1;cases h1
    exact h2.elim
   ·cases cN with
    | cells cs=>exact h2.elim
    | map es=>exact h2.elim
    | cK b cs=>exact h2.elim
    | obj o=>exact h2.elim
    | qJ o n cap=>exact h2.elim
    | aN lo n ok=>exact h2.elim
    | dead=>exact ⟨_,AP j _ h1 cA (.inr (.inl rfl)),h2⟩
    | row e n xs sh=>exact ⟨_,AP j _ h1 cA (.inl rfl),h2⟩
 refine ⟨⟨h.os,h.tape,h.output,by simpa using h.size,?_,?_,?_,?_,h.q_.trans hle,?_⟩,hle⟩
 ·intro x hp;exact (jH x (λhe=>h.low i _ b hi rfl hE (he▸hp))).trans (h.gS x hp)
 ·intro j cN hj;rcases look j cN hj with ⟨rfl,rfl⟩|⟨ef,j6⟩|⟨_,rfl|⟨b1,cs,rfl,eS⟩⟩
  ·exact ⟨b,ents',clock',hE,FG.1,kf.mono hle.rd (λx hx=>by
    obtain ⟨j0,cU,k1,k2⟩:=src j _ x hj hx;exact jH x (RR x j0 cU k1 k2)) hv,nG,iz⟩
  ·exact BR.mono hle (h.fQ j cN j6) (λx he hl=>jH x λe=>ef (h.inj j i _ _ b j6 hi hl rfl (e▸he) hE)) λx hx=>jH x (RR x j cN j6 hx)
  ·trivial
  ·obtain ⟨j0,cU,k1,k2⟩:=src j _ b1 hj (by simp [AB.boxes]);exact rj.mono hle.rd (jH b1 (RR b1 j0 cU k1 k2)) eS
 ·intro j cN x hj hl he;rcases look j cN hj with ⟨rfl,rfl⟩|⟨ef,j6⟩|⟨_,rfl|⟨b1,cs,rfl,eS⟩⟩
  ·exact h.low _ _ x hi rfl he
  ·exact h.low j cN x j6 hl he
  ·cases hl
  ·cases hl
 ·intro j1 j2 iS fp x h1 h2 l1 l2 e1 e2;have q_:∀ (j:Nat) (ab:AB),L'[j]? = some ab->ab.live=true->∃ cU,L[j]? = some cU/\cU.live=true:=by
   intro j ab hj hl;rcases look j ab hj with ⟨rfl,rfl⟩|⟨ef,j6⟩|⟨_,rfl|⟨b1,cs,rfl,eS⟩⟩
   ·exact ⟨_,hi,rfl⟩
   ·exact ⟨_,j6,hl⟩
   ·cases hl
   ·cases hl
  obtain ⟨a1,k1,k2⟩:=q_ j1 iS h1 l1;obtain ⟨a2,m1,m2⟩:=q_ j2 fp h2 l2;exact h.inj j1 j2 a1 a2 x k1 m1 k2 m2 e1 e2
 ·refine ⟨?_,?_,nd,dj⟩
  ·intro j ab x hj hx;obtain ⟨j0,cU,k1,k2⟩:=src j ab x hj hx;exact h.bx.low j0 cU x k1 k2
  ·intro j1 j2 iS fp x h1 hx h2 hl he;obtain ⟨j0,cU,k1,k2⟩:=src j1 iS x h1 hx;rcases look j2 fp h2 with ⟨rfl,rfl⟩|⟨ef,j6⟩|⟨_,rfl|⟨b1,cs,rfl,eS⟩⟩
   ·exact h.bx.own j0 _ cU _ x k1 k2 hi rfl he
   ·exact h.bx.own j0 _ cU _ x k1 k2 j6 hl he
   ·cases hl
   ·cases hl
def Xn (a b:KV):Option Bool :=
 match a,b with
 | .one (.str s),.one (.str t)=>some (s == t)
 | .one (.int k n),.one (.int k' m)=>bif W6 k k' then some (n == m) else none
 | .one (.bool p),.one (.bool q)=>some (p == q)
 | _,_=>none
def mO (key:KV):List (KV×MV)->Nat->Option (Option (Nat×MV))
 | [],_=>some none
 | (k,m) :: r,j=>match Xn key k with
   | some true=>some (some (j,m))
   | some false=>mO key r (j+1)
   | none=>none
def keyOf (x:AV):Option KV :=
 match x with
 | .d (.str s)=>some (.one (.str s))
 | .d (.int k n)=>some (.one (.int k n))
 | .d (.bool b)=>some (.one (.bool b))
 | _=>none
def uq (d:TypeDesc) (k:KV):Bool :=
 match d,k with
 | .string,.one (.str _)=>true
 | .int k,.one (.int k' _)=>W6 k k'
 | .bool,.one (.bool _)=>true
 | _,_=>false
theorem vy {x:AV} {k:KV} (h:keyOf x=some k) {R:RC} {v:Value} (hv:VR R x v):xi R.rd k v:=by
 unfold keyOf at h;split at h<;>first|(cases h;done)|skip
 all_goals
  cases h
  simp only [VR] at hv;refine ⟨?_,hv⟩;simp only [VD] at hv;subst hv;rfl
theorem S1 {d:TypeDesc} {k k':KV} {rd:Addr->Value->Prop} {v v':Value} (hd:uq d k=true) (hv:xi rd k v) (DK:xi rd k' v') {b:Bool} (h:Xn k k'=some b) :
  Instr.sameNow d v v'=some b/\(b=true->Instr.sameBits 10000 v' v=true):=by
 unfold Xn at h;split at h
 ·rename_i s t;simp only [xi,VD] at hv DK;obtain ⟨_,rfl⟩:=hv;obtain ⟨_,rfl⟩:=DK
  cases h
  cases d<;>simp only [uq] at hd<;>first|(cases hd;done)|skip
  refine ⟨rfl,λhb=>?_⟩;have:s=t:=(bytes_beq s t).1 hb;subst this;simpa [Instr.sameBits] using (bytes_beq s s).2 rfl
 ·rename_i q n q' m;simp only [xi,VD] at hv DK;obtain ⟨_,rfl⟩:=hv;obtain ⟨_,rfl⟩:=DK
  cases hk:W6 q q' with
  | false=>rw [hk] at h;cases h
  | true =>
    rw [hk] at h
    cases h
    have:=Fo hk;subst this
    cases d<;>simp only [uq] at hd<;>first|(cases hd;done)|skip
    refine ⟨by simp [Instr.sameNow],λhb=>?_⟩;have:n=m:=by simpa using hb
    subst this;simp [Instr.sameBits]
 ·rename_i p q;simp only [xi,VD] at hv DK;obtain ⟨_,rfl⟩:=hv;obtain ⟨_,rfl⟩:=DK
  cases h
  cases d<;>simp only [uq] at hd<;>first|(cases hd;done)|skip
  refine ⟨rfl,λhb=>?_⟩;have:p=q:=by simpa using hb
  subst this;simp [Instr.sameBits]
 ·cases h
theorem sE {d:TypeDesc} {key:KV} {rd:Addr->Value->Prop} {w:World} {v:Value} (hd:uq d key=true) (hv:xi rd key v):∀ {es:List (KV×MV)} {us:List MapEntry} {j:Nat} {r:Option (Nat×MV)},kf rd w es us->mO key es j=some r ->
  (r=none->Instr.findNow d v us j=some none)/\(∀ i m,r=some (i,m)->∃ t u k',i=j+t/\us[t]? = some u/\es[t]? = some (k',m)/\Instr.findNow d v us j=some (some (i,u.val))/\Instr.sameBits 10000 u.key v=true/\VMV rd w m u.val)
 | [],us,j,r,hu,h=>by
   simp only [kf] at hu;subst hu;simp only [mO,ke] at h;subst h;exact ⟨λ_=>rfl,by simp⟩
 | (k,m) :: rest,us,j,r,hu,h=>by
   simp only [kf] at hu;obtain ⟨u,dt,rfl,h1,h2,h3⟩:=hu;simp only [mO] at h
   cases hq:Xn key k with
   | none=>rw [hq] at h;cases h
   | some b =>
     obtain ⟨k1,k2⟩:=S1 hd hv h1 hq;rw [hq] at h
     cases b with
     | true =>
       simp only [ke] at h;subst h;refine ⟨by simp,?_⟩;rintro i m' he
       cases he
       exact ⟨0,u,k,rfl,by simp,by simp,by simp [Instr.findNow,k1],k2 rfl,h2⟩
     | false =>
       simp only at h;obtain ⟨m1,m2⟩:=sE hd hv (es:=rest) h3 h;refine ⟨λhr=>by simp [Instr.findNow,k1,m1 hr],?_⟩;rintro i m' he;obtain ⟨t,u',k',e1,e2,e3,e4,e5,e6⟩:=m2 i m' he;exact ⟨t+1,u',k',oM,by simpa using e2,by simpa using e3,by simp [Instr.findNow,k1,e4],e5,e6⟩
def vz:TypeDesc->Option (Nat×Nat) | .map k e=>some (k,e)|_=>none
def HV (L:List AB) (K:AV->List AB->Prop):Prop:=gU L (.map []) 0 λi L'=>K (.map i) L'
theorem HW {P:Program} {c:Ctx} (hc:c.wf) {E:Nat->Option Nat} {L:List AB} {w:World} (hs:aI c E L w) {K:AV->List AB->Prop} (h:HV L K) (t:TypeId) :
  ∃ r w' E' av L',(Instr.makeMap t none).run P w = .ok r w'/\K av L'/\aI c E' L' w'/\(aj c.M0 E L w).le (aj c.M0 E' L' w')/\VR (aj c.M0 E' L' w') av r:=by
 have h1:=dA h;rw [gP] at h1;have k:=aO.alloc w (.map #[] 0);have mG:∀ x∈(AB.map []).boxes,w.heap.size<=x:=by simp [AB.boxes,bg]
 have hb:∀ x,some w.heap.size=some x->w.heap.size<=x:=by intro x hx;cases hx;exact eQ _
 have hle:=ig (c:=c) (E:=E) (L:=L) k (.map []) (some w.heap.size) hs.bl hb mG;have bP:=hs.extend hc k (.map []) (some w.heap.size) hb mG (by simp [AB.boxes,bg]) (by simp [AB.boxes,bg]) ⟨w.heap.size,#[],0,rfl,heap_alloc_new w _,by simp [kf],by simp,by simp⟩;refine ⟨.map (some w.heap.size),w.alloc (.map #[] 0),_,_,_,?_,h1,bP,hle,?_⟩
 ·simp only [Instr.makeMap,Sem.run_bind,Sem.run_pure,Result.andThen_ok];rfl
 ·simp only [VR];exact ⟨w.heap.size,⟨.map [],by simp,rfl,by simp [ca]⟩,rfl⟩
def FH (L:List AB) (i:Nat) (z:AV) (ok:Bool) (r:Option (Nat×MV)) (K:AV->List AB->Prop):Prop :=
 match r with
 | none=>match ok with
   | false=>K z L
   | true=>K (.tup [z,.d (.bool false)]) L
 | some (_,.v (.one x))=>match ok with
   | false=>K (.d x) L
   | true=>K (.tup [.d x,.d (.bool true)]) L
 | some (_,.v (.agg cs))=>match ok with
   | false=>K (.agg (cs.map AV.d)) L
   | true=>K (.tup [.agg (cs.map AV.d),.d (.bool true)]) L
 | some (_,.box b _)=>match ok with
   | false=>K (.mp i b 0) L
   | true=>K (.tup [.mp i b 0,.d (.bool true)]) L
def S2 (d:TypeDesc) (k:AV) (K:KV->Prop):Prop :=
 match keyOf k with
 | some kv=>bif uq d kv then K kv else False
 | none=>False
theorem FI {d:TypeDesc} {k:AV} {K:KV->Prop} (h:S2 d k K):∃ kv,keyOf k=some kv/\uq d kv=true/\K kv:=by
 unfold S2 at h;split at h
 ·rename_i kv hk
  cases hd:uq d kv with
  | false=>rw [hd] at h;exact h.elim
  | true=>rw [hd] at h;exact ⟨kv,hk,hd,h⟩
 ·exact h.elim
def NN (tt:TypeId->Option TI) (t:TypeId) (K:TI->TI->TypeId->Prop):Prop :=
 lN tt t λi=>match vz i.desc with
  | some (kt,et)=>lN tt kt λki=>lN tt et λei=>K ki ei et
  | none=>False
theorem AQ {P:Program} {tt:TypeId->Option TI} (ht:cp P tt) {t:TypeId} {K:TI->TI->TypeId->Prop} (h:NN tt t K) :
  ∃ kt et ki ei,P.underlying t=some (.map kt et)/\tt kt=some ki/\P.underlying kt=some ki.desc/\tt et=some ei/\K ki ei et:=by
 obtain ⟨i,hi,h1⟩:=bI h;split at h1
 ·rename_i kt et hd;obtain ⟨ki,Ha,h2⟩:=bI h1;obtain ⟨ei,iw,h3⟩:=bI h2;have hu:=(ht t i hi).1
  cases hq:i.desc<;>rw [hq] at hd<;>simp only [vz] at hd<;>first|(cases hd;done)|skip
  cases hd
  rw [hq] at hu;exact ⟨kt,et,ki,ei,hu,Ha,(ht kt ki Ha).1,iw,h3⟩
 ·exact h1.elim
def NO (tt:TypeId->Option TI) (t:TypeId) (ok:Bool) (L:List AB) (x k:AV) (K:AV->List AB->Prop):Prop :=
 NN tt t λki ei _=>S2 ki.desc k λkv=>match x with
  | .map i=>fC L i λab=>match ab with
    | .map es=>∃ r,mO kv es 0=some r/\FH L i (qK ei.zero) ok r K
    | _=>False
  | _=>False
theorem AR {d:TypeDesc} {kv:KV} {rd:Addr->Value->Prop} {v:Value} (hd:uq d kv=true) (hv:xi rd kv v):IsKey d v:=by
 cases kv with
 | agg cs=>cases d<;>simp [uq] at hd
 | one x =>
   cases x<;>(try (cases d<;>simp [uq] at hd;done))
   case int k n =>
    simp only [xi,VD] at hv;obtain ⟨_,rfl⟩:=hv
    cases d<;>simp only [uq] at hd<;>first|(cases hd;done)|skip
    rw [Fo hd];simp [IsKey]
   case bool b =>
    simp only [xi,VD] at hv;obtain ⟨_,rfl⟩:=hv
    cases d<;>simp only [uq] at hd<;>first|(cases hd;done)|skip
    simp [IsKey]
   case str s =>
    simp only [xi,VD] at hv;obtain ⟨_,rfl⟩:=hv
    cases d<;>simp only [uq] at hd<;>first|(cases hd;done)|skip
    simp [IsKey]
end
noncomputable section
open Go.RowKit Go.MapKept
theorem AS {c:Ctx} {E:Nat->Option Nat} {L:List AB} {w:World} (hs:aI c E L w) {i:Nat} {es:List (KV×MV)} (hi:L[i]? = some (.map es)) {v:Value} (hv:VR (aj c.M0 E L w) (.map i) v) :
  ∃ b eR clock,E i=some b/\v = .map (some b)/\w.heap[b]? = some (.map eR clock)/\kf (aj c.M0 E L w).rd w es eR.toList/\(eR.toList.map (·.born)).Pairwise (· < ·)/\∀ x∈eR.toList,x.born<clock:=by
 simp only [VR] at hv;obtain ⟨b,⟨ab,h1,_,h2⟩,rfl⟩:=hv;rw [hi] at h1;cases h1
 obtain ⟨b',eR,clock,k1,k2,k3,k4,k5⟩:=hs.fQ i _ hi;rw [h2] at k1;cases k1
 exact ⟨b,eR,clock,h2,rfl,k2,k3,k4,k5⟩
theorem AT {R:RC} {w:World} {L:List AB} {i:Nat} {z:AV} {zv:Value} (hz:VR R z zv) {ok:Bool} {r:Option (Nat×MV)} {K:AV->List AB->Prop} (h:FH L i z ok r K)
  {rv:Value×Bool} (hn:r=none->rv=(zv,false)) (S3:∀ j m,r=some (j,m)->rv.2=true/\VMV R.rd w m rv.1) :
  ∃ av,K av L/\VR R av (if ok then .tuple #[rv.1,.bool rv.2] else rv.1):=by
 have tup:∀ {x:AV} {v:Value} {b:Bool},VR R x v->VR R (.tup [x,.d (.bool b)]) (.tuple #[v,.bool b]):=by
  intro x v b hx;simp only [VR];exact ⟨_,rfl,by simp only [cD];exact ⟨_,_,rfl,hx,_,_,rfl,by simp [VR,VD],rfl⟩⟩
 unfold FH at h;split at h
 ·rw [hn rfl];split at h
  ·exact ⟨_,h,hz⟩
  ·exact ⟨_,h,tup hz⟩
 ·obtain ⟨h1,h2⟩:=S3 _ _ rfl;have hx:=h2.2;obtain ⟨v,b⟩:=rv;simp only at h1 hx;subst h1;split at h
  ·exact ⟨_,h,by simp only [VR];exact hx⟩
  ·exact ⟨_,h,tup (by simp only [VR];exact hx)⟩
 ·obtain ⟨h1,us,h2,h3⟩:=S3 _ _ rfl;obtain ⟨v,b⟩:=rv;simp only at h1 h2;subst h1 h2;have hx:=(show VR R (.agg (List.map AV.d _)) (.agg us) by simp only [VR];exact ⟨us,rfl,tD.2 h3⟩);split at h
  ·exact ⟨_,h,hx⟩
  ·exact ⟨_,h,tup hx⟩
 ·obtain ⟨h1,h2,_⟩:=S3 _ _ rfl;obtain ⟨v,b⟩:=rv;simp only at h1 h2;subst h1 h2;split at h
  ·exact ⟨_,h,by simp [VR]⟩
  ·exact ⟨_,h,tup (by simp [VR])⟩
theorem Lg {P:Program} {tt:TypeId->Option TI} (ht:cp P tt) {c:Ctx} {E:Nat->Option Nat} {L:List AB} {w:World} (hs:aI c E L w) {t:TypeId} {ok:Bool} {x k:AV} {K:AV->List AB->Prop} (h:NO tt t ok L x k K)
  {xv kv:Value} (hx:VR (aj c.M0 E L w) x xv) (hk:VR (aj c.M0 E L w) k kv):∃ r av,(Instr.lookup t xv kv ok).run P w = .ok r w/\K av L/\VR (aj c.M0 E L w) av r:=by
 obtain ⟨kt,et,ki,ei,hu,Ha,NP,iw,h1⟩:=AQ ht h;obtain ⟨key,PK,qO,h2⟩:=FI h1
 cases x<;>simp only at h2<;>first|exact h2.elim|skip
 case map i =>
  obtain ⟨ab,bC,h3⟩:=cq h2
  cases ab<;>simp only at h3<;>first|exact h3.elim|skip
  rename_i es;obtain ⟨r,hr,h4⟩:=h3;obtain ⟨b,eR,clock,hE,rfl,hh,hv,_,_⟩:=AS hs bC hx;have hkv:=vy PK hk;obtain ⟨f1,f2⟩:=sE qO hkv hv hr;obtain ⟨Aw,info,z1,z2,z3,z4⟩:=ht et ei iw;have hzero:(zeroValue et).run P w = .ok ei.zero w:=by simp [zeroValue,typeInfo,z1,z2]
  have pX:=run_checkKey (w:=w) NP (AR qO hkv) eR.isEmpty 9999
  cases r with
  | none =>
    obtain ⟨av,k1,k2⟩:=AT (lY (aj c.M0 E L w) ei.zero) h4 (w:=w) (rv:=(ei.zero,false)) (λ_=>rfl) (by simp);refine ⟨_,av,?_,k1,k2⟩;have hf:=run_findKey (w:=w) NP (f1 rfl);simp only [Instr.lookup,Sem.run_bind,run_underlying hu,Result.andThen_ok,ZD hh,Sem.run_pure,pX,hf,hzero]
  | some jm =>
    obtain ⟨j,m⟩:=jm;obtain ⟨t',u,k',_,e2,e3,e4,_,e6⟩:=f2 j m rfl;obtain ⟨av,k1,k2⟩:=AT (lY (aj c.M0 E L w) ei.zero) h4 (w:=w) (rv:=(u.val,true)) (by simp) (λj' m' he=>by cases he;exact ⟨rfl,e6⟩);refine ⟨_,av,?_,k1,k2⟩;have hf:=run_findKey (w:=w) NP e4;simp only [Instr.lookup,Sem.run_bind,run_underlying hu,Result.andThen_ok,ZD hh,Sem.run_pure,pX,hf]
def kvK (v:AV) (L:List AB) (K:KV->List AB->Prop):Prop :=
 match v with
 | .agg cs=>DD cs L λds L'=>K (.agg ds) L'
 | v=>bif qw v then K8 v L λd L'=>K (.one d) L' else False
theorem abB {c:Ctx} (hc:c.wf) {E:Nat->Option Nat} {L:List AB} {w:World} (hs:aI c E L w) {v:AV} {K:KV->List AB->Prop} (h:kvK v L K) {u:Value} (hv:VR (aj c.M0 E L w) v u) :
  ∃ kv L',K kv L'/\aI c E L' w/\(aj c.M0 E L w).le (aj c.M0 E L' w)/\xi (aj c.M0 E L' w).rd kv u:=by
 unfold kvK at h;split at h
 ·rename_i cs;simp only [VR] at hv;obtain ⟨us,rfl,h1⟩:=hv;obtain ⟨ds,L',k1,_,k2,k3,k4⟩:=rr hc hs h h1;exact ⟨_,L',k1,k2,k3,us,rfl,k4⟩
 ·cases ho:qw v with
  | false=>rw [ho] at h;exact h.elim
  | true =>
    rw [ho] at h;simp only [jB] at h;obtain ⟨d,L',k1,_,k2,k3,k4⟩:=zN hc hs h hv;exact ⟨_,L',k1,k2,k3,Au ho hv,k4⟩
def gg (es:List (KV×MV)) (r:Option (Nat×MV)) (k:KV) (m:MV):List (KV×MV) :=
 match r with
 | none=>es++[(k,m)]
 | some (j,_)=>es.set j (k,m)
def ur (tt:TypeId->Option TI) (t:TypeId) (L:List AB) (x k v:AV) (K:List AB->Prop):Prop :=
 NN tt t λki _ _=>S2 ki.desc k λkv=>match x with
  | .map i=>match v with
    | .mp _ b o=>bif Nat.beq o 0 then fC L i λab=>match ab with
      | .map es=>∃ (r:Option (Nat×MV)) (j:Nat) (cs:List DV),mO kv es 0=some r/\L[j]? = some (.cK b cs)/\(∀ L',L'=(L.set j .dead).set i (.map (gg es r kv (.box b cs)))->K L')
      | _=>False
      else False
    | v=>kvK v L λdv L1=>fC L1 i λab=>match ab with
      | .map es=>∃ r,mO kv es 0=some r/\kZ L1 i (.map (gg es r kv (.v dv))) K
      | _=>False
  | _=>False
theorem AU {es:List (KV×MV)} {j:Nat} {k:KV} {x:KV}:(bg (es.set j (k,.v x))).Sublist (bg es):=by
 induction es generalizing j with
 | nil=>simp
 | cons p r ih =>
   cases j with
   | zero=>rw [WQ,cv,cv];simp only [mb,tC];exact List.sublist_append_right _ _
   | succ j=>rw [zdU,cv,cv];exact List.Sublist.append (zeW _) ih
theorem ku {es:List (KV×MV)} {j:Nat}:(bg (es.eraseIdx j)).Sublist (bg es):=by
 induction es generalizing j with
 | nil=>simp
 | cons p r ih =>
   cases j with
   | zero=>rw [cv];simp only [List.eraseIdx_cons_zero];exact List.sublist_append_right _ _
   | succ j=>rw [zfC,cv,cv];exact List.Sublist.append (zeW _) ih
theorem FJ {es:List (KV×MV)} {r:Option (Nat×MV)} {k:KV} {x:KV}:(bg (gg es r k (.v x))).Sublist (bg es):=by
 unfold gg;split
 ·rw [ob];simp [bg]
 ·exact AU
theorem AX {es:List (KV×MV)} {r:Option (Nat×MV)} {k:KV} {b:Nat} {cs:List DV} (hb:b∉bg es) (hn:(bg es).Nodup) :
  (∀ x∈bg (gg es r k (.box b cs)),x=b∨x∈bg es)/\(bg (gg es r k (.box b cs))).Nodup:=by
 unfold gg;split
 ·rw [ob];simp only [bg];refine ⟨λx hx=>?_,?_⟩
  ·simp at hx;exact hx.symm
  ·rw [CN];refine ⟨hn,by simp,?_⟩;intro x hx y hy;simp at hy;subst hy;exact λe=>hb (e▸hx)
 ·rename_i j m
  induction es generalizing j with
  | nil=>simp [bg]
  | cons p l ih =>
    rw [cv] at hb hn;simp only [gA,CO] at hb;rw [CN] at hn
    cases j with
    | zero =>
      rw [WQ,cv,cv];refine ⟨λx hx=>?_,?_⟩
      ·simp [mb] at hx;rcases hx with h|h
       ·exact .inl h
       ·exact .inr (RE _ h)
      ·simp only [mb,Wy,Pw];exact ⟨hb.2,hn.2.1⟩
    | succ j =>
      rw [zdU,cv,cv];obtain ⟨i1,i2⟩:=ih hb.2 hn.2.1 j;refine ⟨λx hx=>?_,?_⟩
      ·rcases gA.1 hx with h|h
       ·exact .inr (R_ _ h)
       ·rcases i1 x h with h|h
        ·exact .inl h
        ·exact .inr (RE _ h)
      ·rw [CN];refine ⟨hn.1,i2,?_⟩;intro x hx y hy;rcases i1 y hy with rfl|h
       ·exact λe=>hb.1 (e▸hx)
       ·exact hn.2.2 x hx y h
theorem CZ (es:Array MapEntry) (i:Nat) (u:MapEntry) (f:MapEntry->MapEntry) (h:es.toList[i]? = some u):(es.modify i f).toList=es.toList.set i (f u):=by
 apply WS;intro j;rw [zeU];simp only [ZF,zeR] at h ⊢;by_cases hj:i=j
 ·subst hj;have bB:i<es.size:=by
   have:=(ud.1 h).1;exact this
  simp only [Hm,h,WB];rw [bp (by simpa using bB)]
 ·rw [aR hj,aR hj]
theorem FK {l:List MapEntry} {i:Nat} {u u':MapEntry} (h:l[i]? = some u) (hb:u'.born=u.born):(l.set i u').map (·.born)=l.map (·.born):=by
 apply WS;intro j;simp only [CD,zeU];by_cases hj:i=j
 ·subst hj;have bB:=(dW.1 h).1;rw [bp rfl,bp bB,h];simp [hb]
 ·rw [aR hj]
theorem tK {P:Program} {w:World} {t kt et:TypeId} {d:TypeDesc} (hu:P.underlying t=some (.map kt et)) (NP:P.underlying kt=some d) {key:KV} {m:MV} {rd:Addr->Value->Prop} {k v:Value} (qO:uq d key=true) (hk:xi rd key k)
  {es:List (KV×MV)} {b:Nat} {eR:Array MapEntry} {clock:Nat} (hh:w.heap[b]? = some (.map eR clock)) (hv:kf rd w es eR.toList) (nG:(eR.toList.map (·.born)).Pairwise (· < ·)) (iz:∀ x∈eR.toList,x.born<clock)
  {r:Option (Nat×MV)} (hr:mO key es 0=some r) (hm:VMV rd w m v) :
  ∃ ents' clock',(Instr.mapUpdate t (.map (some b)) k v).run P w = .ok () { w with heap:=w.heap.setIfInBounds b (.map ents' clock') } /\
    kf rd w (gg es r key m) ents'.toList/\(ents'.toList.map (·.born)).Pairwise (· < ·)/\∀ x∈ents'.toList,x.born<clock':=by
 obtain ⟨f1,f2⟩:=sE qO hk hv hr;have pX:=run_checkKey (w:=w) NP (AR qO hk) false 9999
 cases r with
 | none =>
   have hf:=run_findKey (w:=w) NP (f1 rfl);refine ⟨eR.push { key:=k,val:=v,born:=clock },clock+1,?_,?_,?_,?_⟩
   ·simp only [Instr.mapUpdate,Sem.run_bind,run_underlying hu,Result.andThen_ok,ZD hh,pX,hf];exact zd6 _ hh
   ·simp only [Array.toList_push];exact HU hk hm hv
   ·simp only [Array.toList_push,RH,Dv,zfK];rw [Hi];refine ⟨nG,by simp,?_⟩;intro x hx y hy;simp at hy;subst hy;obtain ⟨u,Aw,rfl⟩:=px.1 hx;exact iz u Aw
   ·simp only [Array.toList_push,gA,Hj];rintro x (hx|rfl)
    ·exact Nat.lt_succ_of_lt (iz x hx)
    ·exact Nt _
 | some jm =>
   obtain ⟨j,m0⟩:=jm;obtain ⟨t',u,k',e1,e2,e3,e4,e5,e6⟩:=f2 j m0 rfl;rw [gP] at e1;subst e1;have hf:=run_findKey (w:=w) NP e4;have e2':eR[j]? = some u:=by simpa using e2
   have abC:=CZ eR j u (λe=>{ e with key:=k,val:=v }) e2;refine ⟨eR.modify j λe=>{ e with key:=k,val:=v },clock,?_,?_,?_,?_⟩
   ·simp only [Instr.mapUpdate,Sem.run_bind,run_underlying hu,Result.andThen_ok,ZD hh,pX,hf,e2',WB,zfL,Instr.keyThatStays,e5,Hm,Sem.run_pure];exact zd6 _ hh
   ·rw [abC];exact NM hk hm hv j
   ·rw [abC,FK (u':={ u with key:=k,val:=v }) e2 rfl];exact nG
   ·rw [abC];intro x hx;rcases List.mem_or_eq_of_mem_set hx with hx|rfl
    ·exact iz x hx
    ·exact iz u (fU e2)
end
noncomputable section
open Go.RowKit Go.MapKept
theorem aI.Lh {c:Ctx} {E:Nat->Option Nat} {L:List AB} {w:World} (h:aI c E L w) {i:Nat} {es es':List (KV×MV)} {b:Nat} {eR ents':Array MapEntry} {clock clock':Nat}
  (hi:L[i]? = some (.map es)) (hE:E i=some b) (hh:w.heap[b]? = some (.map eR clock)) (afc:(bg es').Sublist (bg es))
  (hv:kf (aj c.M0 E L w).rd w es' ents'.toList) (nG:(ents'.toList.map (·.born)).Pairwise (· < ·)) (iz:∀ x∈ents'.toList,x.born<clock') :
  aI c E (L.set i (.map es')) { w with heap:=w.heap.setIfInBounds b (.map ents' clock') }/\(aj c.M0 E L w).le (aj c.M0 E (L.set i (.map es')) { w with heap:=w.heap.setIfInBounds b (.map ents' clock') }):=by
 have look:∀ (j:Nat) (ab:AB),(L.set i (.map es'))[j]? = some ab->(j=i/\ab = .map es')∨(j≠i/\L[j]? = some ab):=by
  intro j ab hj;by_cases cA:j=i
  ·subst cA;rw [aD hi] at hj;cases hj;exact .inl ⟨rfl,rfl⟩
  ·rw [al cA] at hj;exact .inr ⟨cA,hj⟩
 have src:∀ (j:Nat) (ab:AB) (x:Nat),(L.set i (.map es'))[j]? = some ab->x∈ab.boxes->∃ (cU:AB),L[j]? = some cU/\x∈cU.boxes:=by
  intro j ab x hj hx;rcases look j ab hj with ⟨rfl,rfl⟩|⟨_,j6⟩
  ·exact ⟨_,hi,afc.subset hx⟩
  ·exact ⟨ab,j6,hx⟩
 refine h.S0 hi hE hh (λj ab hj=>(look j ab hj).imp id .inl) (aD hi) (λj ab hj cA _=>by rw [al cA];exact hj) (λj ab x hj hx=>⟨j,src j ab x hj hx⟩) ?_ ?_ hv nG iz
 ·intro j ab hj;rcases look j ab hj with ⟨rfl,rfl⟩|⟨_,j6⟩
  ·exact (h.bx.nd j _ hi).sublist afc
  ·exact h.bx.nd j ab j6
 ·intro j k ab bQ x hj hk hx hx';obtain ⟨a0,k1,k2⟩:=src j ab x hj hx;obtain ⟨a1,m1,m2⟩:=src k bQ x hk hx';exact h.bx.dj j k a0 a1 x k1 m1 k2 m2
theorem tL {P:Program} {tt:TypeId->Option TI} (ht:cp P tt) {c:Ctx} (hc:c.wf) {E:Nat->Option Nat} {L:List AB} {w:World} (hs:aI c E L w) {t:TypeId} {x k v:AV} {K:List AB->Prop} (h:ur tt t L x k v K)
  {xv kv u:Value} (hx:VR (aj c.M0 E L w) x xv) (hk:VR (aj c.M0 E L w) k kv) (hu:VR (aj c.M0 E L w) v u) :
  ∃ w' L',(Instr.mapUpdate t xv kv u).run P w = .ok () w'/\K L'/\aI c E L' w'/\(aj c.M0 E L w).le (aj c.M0 E L' w'):=by
 obtain ⟨kt,et,ki,ei,jw,Ha,NP,iw,h1⟩:=AQ ht h;obtain ⟨key,PK,qO,h2⟩:=FI h1;clear h h1
 cases x<;>simp only at h2<;>first|exact h2.elim|skip
 case map i =>
  -- data
  have data:(kvK v L λdv L1=>fC L1 i λab=>match ab with
    | .map es=>∃ r,mO key es 0=some r/\kZ L1 i (.map (gg es r key (.v dv))) K
    | _=>False)->∃ w' L',(Instr.mapUpdate t xv kv u).run P w = .ok () w'/\K L'/\aI c E L' w'/\(aj c.M0 E L w).le (aj c.M0 E L' w'):=by
   intro h3;obtain ⟨dv,L1,h4,dR,eX,hdv⟩:=abB hc hs h3 hu;obtain ⟨ab,bC,h5⟩:=cq h4
   cases ab<;>simp only at h5<;>first|exact h5.elim|skip
   rename_i es;obtain ⟨r,hr,h6⟩:=h5;obtain ⟨b,eR,clock,hE,rfl,hh,hv,nG,iz⟩:=AS dR bC (VR.mono eX _ _ hx);obtain ⟨ents',clock',q1,q2,q3,q4⟩:=tK jw NP qO (vy PK (VR.mono eX _ _ hk)) hh hv nG iz hr (m := .v dv) hdv;obtain ⟨bP,hle⟩:=dR.Lh bC hE hh FJ q2 q3 q4;exact ⟨_,_,q1,ew h6,bP,eX.trans hle⟩
  cases v<;>simp only at h2<;>first|exact data h2|skip
  case mp i0 b0 o =>
   cases ho:Nat.beq o 0 with
   | false=>rw [ho] at h2;exact h2.elim
   | true =>
     rw [ho] at h2;simp only [jB] at h2;have:=ie ho;subst this;simp only [VR] at hu;subst hu;obtain ⟨ab,bC,h5⟩:=cq h2
     cases ab<;>simp only at h5<;>first|exact h5.elim|skip
     rename_i es;obtain ⟨r,j,cs,hr,hj,hK⟩:=h5;obtain ⟨b,eR,clock,hE,rfl,hh,hv,nG,iz⟩:=AS hs bC hx;have lW:rj (aj c.M0 E L w).rd w b0 cs:=(hs.fQ j _ hj).box (by simp [AB.mI]);obtain ⟨ents',clock',q1,q2,q3,q4⟩:=tK jw NP qO (vy PK hk) hh hv nG iz hr (m := .box b0 cs) ⟨rfl,lW⟩;have ru:j≠i:=by rintro rfl;rw [bC] at hj;cases hj
     have fR:b0∉bg es:=λhm=>ru (hs.bx.dj j i _ _ b0 hj bC (by simp [AB.boxes]) hm);obtain ⟨p1,p2⟩:=AX (r:=r) (k:=key) (cs:=cs) fR (hs.bx.nd i _ bC);have afd:(L.set j .dead)[i]? = some (.map es):=by rw [al (Ne.symm ru)];exact bC
     have look:∀ (m:Nat) (ab:AB),((L.set j .dead).set i (.map (gg es r key (.box b0 cs))))[m]? = some ab->(m=i/\ab = .map (gg es r key (.box b0 cs)))∨(m≠i/\m≠j/\L[m]? = some ab)∨(m≠i/\m=j/\ab = .dead):=by
      intro m ab hm;by_cases RS:m=i
      ·subst RS;rw [aD afd] at hm;cases hm;exact .inl ⟨rfl,rfl⟩
      ·rw [al RS] at hm;by_cases RK:m=j
       ·subst RK;rw [aD hj] at hm;cases hm;exact .inr (.inr ⟨RS,rfl,rfl⟩)
       ·rw [al RK] at hm;exact .inr (.inl ⟨RS,RK,hm⟩)
     -- where an owned block alZ from
     have src:∀ (m:Nat) (ab:AB) (x:Nat),((L.set j .dead).set i (.map (gg es r key (.box b0 cs))))[m]? = some ab->x∈ab.boxes ->
       (m=i/\x=b0)∨∃ (cU:AB),m≠j/\L[m]? = some cU/\x∈cU.boxes:=by
      intro m ab x hm hx;rcases look m ab hm with ⟨rfl,rfl⟩|⟨n1,n2,uY⟩|⟨_,_,rfl⟩
      ·rcases p1 x hx with rfl|hx
       ·exact .inl ⟨rfl,rfl⟩
       ·exact .inr ⟨_,Ne.symm ru,bC,hx⟩
      ·exact .inr ⟨ab,n2,uY,hx⟩
      ·simp [AB.boxes] at hx
     obtain ⟨bP,hle⟩:=hs.S0 (L':=(L.set j .dead).set i (.map (gg es r key (.box b0 cs)))) bC hE hh (λm ab hm=>by
       rcases look m ab hm with h|⟨n1,n2,h⟩|⟨n1,_,h⟩
       ·exact .inl h
       ·exact .inr (.inl ⟨n1,h⟩)
       ·exact .inr (.inr ⟨n1,.inl h⟩))
      (aD afd) (λm ab hm RS hl=>by
        have RK:m≠j:=by
         rintro rfl;rw [hj] at hm;cases hm
         rcases hl with hl|hl|⟨_,_,_,hl⟩<;>cases hl
        rw [al RS,al RK];exact hm)
      (λm ab x hm hx=>by
        rcases src m ab x hm hx with ⟨_,rfl⟩|⟨cU,_,h1,h2⟩
        ·exact ⟨j,_,hj,by simp [AB.boxes]⟩
        ·exact ⟨m,cU,h1,h2⟩)
      (λm ab hm=>by
        rcases look m ab hm with ⟨rfl,rfl⟩|⟨n1,n2,uY⟩|⟨_,_,rfl⟩
        ·exact p2
        ·exact hs.bx.nd m ab uY
        ·simp [AB.boxes])
      (λm m' ab bQ x hm uY hx hx'=>by
        have hjb:∀ (q:Nat) (cU:AB),q≠j->L[q]? = some cU->b0∉cU.boxes:=λq cU hq h0 hb=>hq (hs.bx.dj q j cU _ b0 h0 hj hb (by simp [AB.boxes]));rcases src m ab x hm hx with ⟨rfl,rfl⟩|⟨a0,n1,g1,g2⟩<;>rcases src m' bQ _ uY hx' with ⟨rfl,e⟩|⟨a1,n2,h3,h4⟩
        ·rfl
        ·exact absurd h4 (hjb m' a1 n2 h3)
        ·subst e;exact absurd g2 (hjb m a0 n1 g1)
        ·exact hs.bx.dj m m' a0 a1 x g1 h3 g2 h4)
      q2 q3 q4
     exact ⟨_,_,q1,hK _ rfl,bP,hle⟩
def NQ (tt:TypeId->Option TI) (t:TypeId) (L:List AB) (x k:AV) (K:List AB->Prop):Prop :=
 NN tt t λki _ _=>S2 ki.desc k λkv=>match x with
  | .map i=>fC L i λab=>match ab with
    | .map es=>∃ r,mO kv es 0=some r/\match r with
      | none=>K L
      | some (j,.v _)=>kZ L i (.map (es.eraseIdx j)) K
      | some (j,.box b cs)=>kZ L i (.map (es.eraseIdx j)) λL'=>gU L' (.cK b cs) 0 λ_ lB=>K lB
    | _=>False
  | _=>False
theorem pY (es:Array MapEntry) (i:Nat):(es.eraseIdxIfInBounds i).toList=es.toList.eraseIdx i:=by
 unfold Array.eraseIdxIfInBounds;split
 ·simp
 ·rename_i h;rw [List.eraseIdx_of_length_le (by simpa using h)]
theorem xH {es:List (KV×MV)} {j:Nat} {k:KV} {b:Nat} {cs:List DV} (h:es[j]? = some (k,.box b cs)) (hn:(bg es).Nodup):b∈bg es/\b∉bg (es.eraseIdx j):=by
 induction es generalizing j with
 | nil=>simp at h
 | cons p r ih =>
   rw [cv] at hn ⊢;rw [CN] at hn
   cases j with
   | zero =>
     simp at h;subst h;simp only [mb,List.eraseIdx_cons_zero];exact ⟨by simp,λhm=>hn.2.2 b (by simp [mb]) b hm rfl⟩
   | succ j =>
     simp only [ue] at h;obtain ⟨i1,i2⟩:=ih h hn.2.1;rw [zfC,cv];refine ⟨RE _ i1,?_⟩;intro hm;rcases gA.1 hm with hm|hm
     ·exact hn.2.2 b hm b i1 rfl
     ·exact i2 hm
theorem Li {P:Program} {tt:TypeId->Option TI} (ht:cp P tt) {c:Ctx} (hc:c.wf) {E:Nat->Option Nat} {L:List AB} {w:World} (hs:aI c E L w) {t:TypeId} {x k:AV} {K:List AB->Prop} (h:NQ tt t L x k K)
  {xv kv:Value} (hx:VR (aj c.M0 E L w) x xv) (hk:VR (aj c.M0 E L w) k kv) (ts:Array TypeId) (j9:ts[0]? = some t) (rt:TypeId) :
  ∃ w' L',(Builtin.delete_ ts rt #[xv,kv]).run P w = .ok (.tuple #[]) w'/\K L'/\aI c E L' w'/\(aj c.M0 E L w).le (aj c.M0 E L' w'):=by
 obtain ⟨kt,et,ki,ei,jw,Ha,NP,iw,h1⟩:=AQ ht h;obtain ⟨key,PK,qO,h2⟩:=FI h1;clear h h1
 cases x<;>simp only at h2<;>first|exact h2.elim|skip
 case map i =>
  obtain ⟨ab,bC,h3⟩:=cq h2
  cases ab<;>simp only at h3<;>first|exact h3.elim|skip
  rename_i es;obtain ⟨r,hr,h4⟩:=h3;obtain ⟨b,eR,clock,hE,rfl,hh,hv,nG,iz⟩:=AS hs bC hx;have hkv:=vy PK hk;obtain ⟨f1,f2⟩:=sE qO hkv hv hr;have pX:=run_checkKey (w:=w) NP (AR qO hkv) eR.isEmpty 9999
  cases r with
  | none =>
    have hf:=run_findKey (w:=w) NP (f1 rfl);simp only at h4;obtain ⟨bP,hle⟩:=hs.Lh bC hE hh (es':=es) (ents':=eR) (clock':=clock) (zeW _) hv nG iz;have hL:L.set i (.map es)=L:=by
     apply WS;intro m;by_cases hm:m=i
     ·subst hm;rw [aD bC,bC]
     ·rw [al hm]
    rw [hL] at bP hle;refine ⟨_,_,?_,h4,bP,hle⟩;simp only [Builtin.delete_,j9,Sem.run_bind,run_underlying jw,Result.andThen_ok,ZD hh,pX,hf];simp [zd6 _ hh,run_underlying jw,ZD hh,pX,hf]
  | some jm =>
    obtain ⟨j,m⟩:=jm;obtain ⟨t',u,k',e1,e2,e3,e4,e5,e6⟩:=f2 j m rfl;rw [gP] at e1;subst e1;have hf:=run_findKey (w:=w) NP e4;have gi:(Builtin.delete_ ts rt #[.map (some b),kv]).run P w = .ok (.tuple #[]) { w with heap:=w.heap.setIfInBounds b (.map (eR.eraseIdxIfInBounds j) clock) }:=by
     simp [Builtin.delete_,j9,zd6 _ hh,run_underlying jw,ZD hh,pX,hf]
    have DK:kf (aj c.M0 E L w).rd w (es.eraseIdx j) (eR.eraseIdxIfInBounds j).toList:=by rw [pY];exact DJ hv j
    have S4:((eR.eraseIdxIfInBounds j).toList.map (·.born)).Pairwise (· < ·):=by
     rw [pY];exact nG.sublist ((List.eraseIdx_sublist _ _).map _)
    have NR:∀ x∈(eR.eraseIdxIfInBounds j).toList,x.born<clock:=by
     rw [pY];exact λx hx=>iz x ((List.eraseIdx_sublist _ _).subset hx)
    cases m with
    | v y =>
      simp only at h4;obtain ⟨bP,hle⟩:=hs.Lh bC hE hh ku DK S4 NR;exact ⟨_,_,gi,ew h4,bP,hle⟩
    | box b0 cs =>
      simp only at h4;have h5:=dA (ew h4);obtain ⟨p1,p2⟩:=xH e3 (hs.bx.nd i _ bC);have lW:rj (aj c.M0 E L w).rd w b0 cs:=e6.2;have eL:i<L.length:=(dW.1 bC).1;have look:∀ (m:Nat) (ab:AB),(L.set i (.map (es.eraseIdx j))++[.cK b0 cs])[m]? = some ab->(m=i/\ab = .map (es.eraseIdx j))∨(m≠i/\m≠L.length/\L[m]? = some ab)∨(m≠i/\m=L.length/\ab = .cK b0 cs):=by
       intro m ab hm;by_cases zy:m=L.length
       ·subst zy;rw [Ww (by simp)] at hm;simp at hm;exact .inr (.inr ⟨oM,rfl,hm.symm⟩)
       ·have uY:(L.set i (.map (es.eraseIdx j)))[m]? = some ab:=getElem?_push_lt hm (by simpa using zy);by_cases RS:m=i
        ·subst RS;rw [aD bC] at uY;cases uY;exact .inl ⟨rfl,rfl⟩
        ·rw [al RS] at uY;exact .inr (.inl ⟨RS,zy,uY⟩)
      have src:∀ (m:Nat) (ab:AB) (x:Nat),(L.set i (.map (es.eraseIdx j))++[.cK b0 cs])[m]? = some ab->x∈ab.boxes ->
        (m=L.length/\x=b0)∨(∃ cU,m≠L.length/\L[m]? = some cU/\x∈cU.boxes/\(m=i->x≠b0)):=by
       intro m ab x hm hx;rcases look m ab hm with ⟨rfl,rfl⟩|⟨n1,n2,uY⟩|⟨_,rfl,rfl⟩
       ·refine .inr ⟨_,oM,bC,ku.subset hx,λ_ e=>p2 (e▸hx)⟩
       ·exact .inr ⟨ab,n2,uY,hx,λe=>absurd e n1⟩
       ·simp [AB.boxes] at hx;exact .inl ⟨rfl,hx⟩
      obtain ⟨bP,hle⟩:=hs.S0 (L':=L.set i (.map (es.eraseIdx j))++[.cK b0 cs]) bC hE hh (λm ab hm=>by
        rcases look m ab hm with h|⟨n1,n2,h⟩|⟨n1,_,h⟩
        ·exact .inl h
        ·exact .inr (.inl ⟨n1,h⟩)
        ·exact .inr (.inr ⟨n1,.inr ⟨b0,cs,h,lW⟩⟩))
       (by rw [CK (by simpa using eL)];exact aD bC) (λm ab hm RS hl=>by
         have:m<L.length:=(dW.1 hm).1;rw [CK (by simpa using this),al RS];exact hm)
       (λm ab x hm hx=>by
         rcases src m ab x hm hx with ⟨_,rfl⟩|⟨cU,_,h1,h2,_⟩
         ·exact ⟨i,_,bC,p1⟩
         ·exact ⟨m,cU,h1,h2⟩)
       (λm ab hm=>by
         rcases look m ab hm with ⟨rfl,rfl⟩|⟨n1,n2,uY⟩|⟨_,_,rfl⟩
         ·exact (hs.bx.nd m _ bC).sublist ku
         ·exact hs.bx.nd m ab uY
         ·simp [AB.boxes])
       (λm m' ab bQ x hm uY hx hx'=>by
         rcases src m ab x hm hx with ⟨rfl,rfl⟩|⟨a0,n1,h1,h2,S5⟩<;>rcases src m' bQ _ uY hx' with ⟨rfl,e⟩|⟨a1,n2,h3,h4,h4'⟩
         ·rfl
         ·exfalso;have:=hs.bx.dj i m' _ a1 _ bC h3 p1 h4;exact h4' this.symm rfl
         ·exfalso;subst e;have:=hs.bx.dj i m _ a0 _ bC h1 p1 h2;exact S5 this.symm rfl
         ·exact hs.bx.dj m m' a0 a1 x h1 h3 h2 h4)
       DK S4 NR
      exact ⟨_,_,gi,h5,bP,hle⟩
def FL (L:List AB) (d:TypeDesc) (x:AV) (K:AV->Prop):Prop :=
 match x with
 | .map i=>match vz d with
   | some _=>fC L i λab=>match ab with
     | .map es=>K (.k es.length)
     | _=>False
   | none=>False
 | _=>False
theorem Lj {P:Program} {tt:TypeId->Option TI} (ht:cp P tt) {c:Ctx} {E:Nat->Option Nat} {L:List AB} {w:World} (hs:aI c E L w) {t:TypeId} {i:TI} (hi:tt t=some i) {x:AV} {K:AV->Prop} (h:FL L i.desc x K) {v:Value} (hx:VR (aj c.M0 E L w) x v)
  (ts:Array TypeId) (rt:TypeId) (j9:ts[0]? = some t):∃ z:Int,(Builtin.len_ ts rt #[v]).run P w = .ok (.j z) w/\K (.k z):=by
 cases x<;>simp only [FL] at h<;>first|exact h.elim|skip
 case map j =>
  split at h
  ·rename_i p hd;obtain ⟨ab,bC,h3⟩:=cq h
   cases ab<;>simp only at h3<;>first|exact h3.elim|skip
   rename_i es;obtain ⟨b,eR,clock,hE,rfl,hh,hv,nG,iz⟩:=AS hs bC hx;have hu:=(ht t i hi).1
   cases hq:i.desc<;>rw [hq] at hd<;>simp only [vz] at hd<;>first|(cases hd;done)|skip
   rw [hq] at hu;have hl:eR.size=es.length:=by rw [<-lU];exact AO hv
   refine ⟨(es.length:Nat),?_,h3⟩;simp [Builtin.len_,j9,run_underlying hu,ZD hh,goInt,hl]
  ·exact h.elim
end
noncomputable section
open Go.RowKit
def c_ (t:Bool) (A B:Prop):Prop :=
 match t with
 | true=>A
 | false=>B
def NS (tt:TypeId->Option TI) (t:TypeId) (L:List AB) (x:AV) (K:AV->List AB->Prop):Prop :=
 lN tt t λi=>match i.desc,x with
  | .string,.d (.str s)=>gU L (.obj (.stringIter s 0)) 0 λi L'=>K (.ptr i 0) L'
  | _,_=>False
theorem Lk {P:Program} {tt:TypeId->Option TI} (ht:cp P tt) {c:Ctx} (hc:c.wf) {E:Nat->Option Nat} {L:List AB} {w:World} (hs:aI c E L w) {t:TypeId} {x:AV} {K:AV->List AB->Prop} (h:NS tt t L x K) {v:Value} (hv:VR (aj c.M0 E L w) x v) :
  ∃ r w' E' av L',(Instr.range t v).run P w = .ok r w'/\K av L'/\aI c E' L' w'/\(aj c.M0 E L w).le (aj c.M0 E' L' w')/\VR (aj c.M0 E' L' w') av r:=by
 obtain ⟨i,hi,h1⟩:=bI h;obtain ⟨hu,_⟩:=ht t i hi;split at h1
 ·rename_i s hd;simp only [VR,VD] at hv;subst hv;have h2:=dA h1;rw [gP] at h2;have k:=aO.alloc w (.stringIter s 0);have mG:∀ x∈(AB.obj (.stringIter s 0)).boxes,w.heap.size<=x:=by simp [AB.boxes]
  have hb:∀ x,some w.heap.size=some x->w.heap.size<=x:=by intro x hx;cases hx;exact eQ _
  have hle:=ig (c:=c) (E:=E) (L:=L) k (.obj (.stringIter s 0)) (some w.heap.size) hs.bl hb mG;have bP:=hs.extend hc k (.obj (.stringIter s 0)) (some w.heap.size) hb mG (by simp [AB.boxes]) (by simp [AB.boxes]) ⟨w.heap.size,rfl,heap_alloc_new w _⟩;refine ⟨.pointer (some ⟨w.heap.size,0,none⟩),w.alloc (.stringIter s 0),_,_,_,?_,h2,bP,hle,?_⟩
  ·simp [Instr.range,run_underlying hu,hd]
  ·simp only [VR];exact ⟨w.heap.size,⟨.obj (.stringIter s 0),by simp,rfl,by simp [ca]⟩,rfl⟩
 ·exact h1.elim
def Ll (str:Bool) (L:List AB) (x:AV) (K:AV->List AB->Prop):Prop :=
 match str,x with
 | true,.ptr i 0=>fC L i λab=>match ab with
   | .obj (.stringIter s p)=>c_ (decide (p<s.size)) (kZ L i (.obj (.stringIter s (p+(Utf8.decode s p).2))) λL'=>K (.tup [.d (.bool true),.k p,.d (.int .i32 (Utf8.decode s p).1)]) L') (K (.tup [.d (.bool false)]) L)
   | _=>False
 | _,_=>False
theorem PL {P:Program} {c:Ctx} {E:Nat->Option Nat} {L:List AB} {w:World} (hs:aI c E L w) {str:Bool} {x:AV} {K:AV->List AB->Prop} (h:Ll str L x K) (t:TypeId) {v:Value} (hv:VR (aj c.M0 E L w) x v) :
  ∃ r w' av L',(Instr.next v str t).run P w = .ok r w'/\K av L'/\aI c E L' w'/\(aj c.M0 E L w).le (aj c.M0 E L' w')/\VR (aj c.M0 E L' w') av r:=by
 unfold Ll at h;split at h
 ·rename_i i;simp only [VR] at hv;obtain ⟨b,⟨ab,hi,_,hE⟩,rfl⟩:=hv;obtain ⟨bQ,xe,h1⟩:=cq h;rw [hi] at xe;cases xe
  split at h1
  ·rename_i s p _;obtain ⟨b',kg,hh⟩:=hs.fQ i _ hi;rw [hE] at kg;cases kg
   by_cases RT:p<s.size
   rotate_left
   ·rw [aP RT] at h1;exact ⟨.tuple #[.bool false],w,_,L,by simp [Instr.next,getObj,Sem.run,hh,RT],h1,hs,RC.le.refl _,by simp [VR,cD,VD]⟩
   ·rw [cz RT] at h1;have h2:=ew h1;have bB:b<w.heap.size:=(ud.1 hh).1;have k:mH (E i) w { w with heap:=w.heap.setIfInBounds b (.stringIter s (p+(Utf8.decode s p).2)) }:=by
     rw [hE];exact ⟨rfl,rfl,rfl,by simp,λk hk=>zcQ λe=>hk (by rw [e]),iG.Hr (b:=b) (λx hx=>zcQ (Ne.symm hx)) λ_ _ _ h=>by rw [hh] at h;cases h⟩
    have hle:(aj c.M0 E L w).le (aj c.M0 E (L.set i (.obj (.stringIter s (p+(Utf8.decode s p).2)))) { w with heap:=w.heap.setIfInBounds b (.stringIter s (p+(Utf8.decode s p).2)) }) :=
     rm hs hi rfl k (λ_ _=>trivial) (λb' o u _ hm _=>absurd trivial hm) rfl (λv hv=>hv.elim) (λj o v hv=>hv.elim) (λx hx=>by simp [AB.boxes] at hx)
    refine ⟨.tuple #[.bool true,.j p,.int .i32 (Utf8.decode s p).1],_,_,_,?_,h2,hs.Ht hi rfl k hle rfl ⟨b,hE,?_⟩ rfl,hle,?_⟩
    ·simp [Instr.next,getObj,setObj,Sem.run,hh,RT,Result.andThen,goInt]
    ·show (w.heap.setIfInBounds b _)[b]? = _;simp [bB]
    ·simp [VR,cD,VD]
  ·exact h1.elim
 ·exact h.elim
end
noncomputable section
open Go.RowKit
def HX:TypeDesc->Option IntKind | .int k=>some k|_=>none
def FM (v:Value) (K:DV->Prop):Prop :=
 match v with
 | .int k z=>K (.int k z)
 | .string s=>K (.str s)
 | .bool b=>K (.bool b)
 | _=>False
theorem DL {v:Value} {K:DV->Prop} (h:FM v K):∃ d,K d/\v.cells = #[v]/\v.oneCell'=true/\∀ rd,VD rd d v:=by
 unfold FM at h;split at h
 ·exact ⟨_,h,rfl,rfl,λrd=>by simp [VD]⟩
 ·exact ⟨_,h,rfl,rfl,λrd=>by simp [VD]⟩
 ·exact ⟨_,h,rfl,rfl,λrd=>by simp [VD]⟩
 ·exact h.elim
def AY (tt:TypeId->Option TI) (t t':TypeId) (L:List AB) (s x:AV) (K:AV->List AB->Prop):Prop :=
 lN tt t λi=>match bY i.desc with
  | some e=>lN tt e λei=>lN tt t' λni=>match HX ni.desc with
    | some _=>bif Nat.beq ei.size 1&&Nat.ble 1 ei.bytes then FM ei.zero λd=>match x with
      | .d (.int _ n)=>match s with
        | .arr j=>fC L j λab=>match ab with
          | .row e' m xs sh=>bif Nat.beq m 1&&Nat.beq e' e then 0<=n/\(xs.length+n.toNat) * ei.bytes<=140737488355328 /\
             kZ L j .dead λL1=>gU L1 (.row e 1 (xs++List.replicate n.toNat [d]) sh) 0 λj' L'=>K (.arr j') L' else False
          | _=>False
        | _=>False
      | _=>False
      else False
    | none=>False
  | none=>False
theorem oc (v:Value) (n:Nat):(Builtin.zeroCells #[v] n).toList=List.replicate n v:=by
 unfold Builtin.zeroCells;apply List.ext_getElem
 ·simp
 ·intro k h1 h2;simp [zfP]
theorem la {P:Program} (w:World) (t tn ty e:TypeId) (i:TypeInfo) (kq kn:IntKind) (ht:P.underlying t=some (.slice e)) (yH:P.underlying tn=some (.int kn)) (hi:P.info? e=some i)
  (base:Option Addr) (qP xI:Nat) (h:qP<=xI) :
  (Builtin.append_ #[t,tn] ty #[.slice base qP xI,.int kq 0]).run P w = .ok (.slice base qP xI) w:=by
 have hw:IntKind.i64.wrap 0=0:=dC
 cases base<;>simp [Builtin.append_,run_underlying ht,run_underlying yH,sizeOf,typeInfo,hi,asInt,asIntOf,hw,h,storeCells]
theorem rA {P:Program} (w:World) (t tn ty e:TypeId) (i:TypeInfo) (z:Value) (kq kn:IntKind) (ht:P.underlying t=some (.slice e)) (yH:P.underlying tn=some (.int kn)) (hi:P.info? e=some i) (hz:i.zero=some z)
  (h1:i.size=1) (CG:z.cells = #[z]) (pB:z.oneCell'=true) (b qP xI:Nat) (cur:Array Value) (hh:w.heap[b]? = some (.cells cur e (0,0))) (n:Nat) (h0:0<n) (hn:n<=140737488355328) (AE:n * i.bytes<=281474976710656)
  (eh:qP+n<=xI) (tk:qP+n<=cur.size) :
  (Builtin.append_ #[t,tn] ty #[.slice (some ⟨b,0,none⟩) qP xI,.int kq n]).run P w = .ok (.slice (some ⟨b,0,none⟩) (qP+n) xI) (w.setRow b (cur.toList.take qP++List.replicate n z++cur.toList.drop (qP+n)).toArray):=by
 have hw:IntKind.i64.wrap (n:Int)=n:=by rw [IntKind.wrap_i64];omega
 have aio:¬((n:Int)<0):=oM;have aip:¬(281474976710656<(n:Int) * (i.bytes:Int)):=by rw [<-Int.natCast_mul];omega
 have zw:n≠0:=oM;have vo:=run_storeCells_at P b qP e (List.replicate n z) 0 cur w hh (by simpa using tk) (by intro v hv;rw [(List.mem_replicate.1 hv).2];exact pB);simp only [RJ,R9] at vo;simp [Builtin.append_,run_underlying ht,run_underlying yH,sizeOf,typeInfo,zeroValue,hi,hz,h1,asInt,asIntOf,hw,aio,aip,zw,eh,oc,CG,Addr.add_lit,vo]
theorem od {rd:Addr->Value->Prop} {d:DV} {z:Value} (h1:z.oneCell'=true) (h:VD rd d z):∀ n:Nat,cR rd (List.replicate n [d]).flatten (List.replicate n z)
 | 0=>by simp [cR,Cs]
 | n+1=>by
   simp only [List.replicate_succ,va,Wy,cR,Cs];exact ⟨_,_,rfl,h1,h,by simpa [cR] using od h1 h n⟩
theorem HY {P:Program} {tt:TypeId->Option TI} (ht:cp P tt) {t t':TypeId} {c:Ctx} (hc:c.wf) {E:Nat->Option Nat} {L:List AB} {w:World} (hs:aI c E L w) {s x:AV} {K:AV->List AB->Prop} (h:AY tt t t' L s x K) (ty:TypeId)
  {v u:Value} (hv:VR (aj c.M0 E L w) s v) (Aw:VR (aj c.M0 E L w) x u) :
  ∃ r w' E' av L',(Builtin.append_ #[t,t'] ty #[v,u]).run P w = .ok r w'/\K av L'/\aI c E' L' w'/\(aj c.M0 E L w).le (aj c.M0 E' L' w')/\VR (aj c.M0 E' L' w') av r:=by
 unfold AY at h;replace h:=bI h;obtain ⟨i,hi,h⟩:=h;split at h
 rotate_left
 ·exact h.elim
 rename_i e he;replace h:=bI h;obtain ⟨ei,iw,h⟩:=h;replace h:=bI h;obtain ⟨ni,hni,h⟩:=h;split at h
 rotate_left
 ·exact h.elim
 rename_i kn FN;have hd:i.desc = .slice e:=by
  revert he
  cases i.desc<;>simp [bY]
 have qQ:ni.desc = .int kn:=by
  revert FN
  cases ni.desc<;>simp [HX]
 obtain ⟨hu,_⟩:=ht t i hi;rw [hd] at hu;obtain ⟨yH,_⟩:=ht t' ni hni;rw [qQ] at yH;obtain ⟨_,info,k1,k2,k3,k4⟩:=ht e ei iw
 cases fR:(Nat.beq ei.size 1&&Nat.ble 1 ei.bytes) with
 | false=>rw [fR] at h;exact h.elim
 | true =>
 rw [fR] at h;simp only [jB] at h;simp only [oB] at fR;have j8:=ie fR.1;have S6:RN e 1:=⟨oM,by rw [ht.sz e ei iw];exact j8⟩;have AE:0<ei.bytes:=Hh fR.2;replace h:=DL h;obtain ⟨d,h,CG,pB,hzd⟩:=h;have AZ:info.size=1:=by rw [k3,j8]
 split at h
 rotate_left
 ·exact h.elim
 rename_i kq n;simp only [VR,VD] at Aw;subst Aw;split at h
 rotate_left
 ·exact h.elim
 rename_i j;obtain ⟨ab,bC,h1⟩:=cq h
 cases ab<;>simp only at h1<;>first|exact h1.elim|skip
 rename_i e' m xs sh
 cases hb:(Nat.beq m 1&&Nat.beq e' e) with
 | false=>rw [hb] at h1;exact h1.elim
 | true =>
 rw [hb] at h1;simp only [oB] at hb;have em:=ie hb.1;have ee:=ie hb.2;subst em;subst ee;obtain ⟨zw,hbound,h2⟩:=h1;obtain ⟨n,rfl⟩:=Int.eq_ofNat_of_zero_le zw;simp only [WA] at hbound h2;have h3:=dA (ew h2);rw [gP] at h3;simp only [List.length_set] at h3;have fy:=hs.fQ j _ bC;obtain ⟨_,tI,gC⟩:=fy;have bB:j<L.length:=(dW.1 bC).1;simp only [VR] at hv;obtain ⟨bQ,eY,hrel⟩:=hv;rw [bC] at eY;cases eY
 simp only [bj] at hrel;obtain ⟨hk,pR⟩:=hs.kill bC;have fW:(L.set j AB.dead).length=L.length:=by simp
 have l1:cR (aj c.M0 E L w).rd (List.replicate n [d]).flatten (List.replicate n ei.zero):=od pB (hzd _) n;have l4:∀ cs∈List.replicate n [d],cs.length=1:=by intro cs ck;rw [(List.mem_replicate.1 ck).2];rfl
 have ZL:(xs.length+n)<=140737488355328:=fS (zc8 _ AE) hbound;have S7:n * info.bytes<=281474976710656:=by
  rw [k4];have:n * ei.bytes<=(xs.length+n) * ei.bytes:=lT _ oM;omega
 have tr:∀ {E2:Nat->Option Nat} {L2:List AB} {w2:World},(aj c.M0 E (L.set j AB.dead) w).le (aj c.M0 E2 L2 w2)->(aj c.M0 E L w).le (aj c.M0 E2 L2 w2) :=
  λhle=>(pR.trans hle)
 cases hE:E j with
 | none =>
   rw [hE] at gC hrel;simp only at gC hrel;subst gC;subst hrel;simp only [tC,Du,gP] at h3 ZL;rcases Hk n with rfl|hnp
   ·obtain ⟨bP,hle⟩:=hk.pN hc e' 1 sh S6;rw [fW] at bP hle;exact ⟨_,_,_,_,_,la w t t' ty e' info kq kn hu yH k1 none 0 0 (eQ _),h3,bP,tr hle,by rw [<-fW];exact kp⟩
   ·have hr:=Lib.run_append_nil_zeros (P:=P) w t t' ty e' info ei.zero kq kn hu yH k1 k2 n hnp oM oM S7;have rl:=grownCap_ge w n 0 e';have i_:=grownCap_le_maxLen w n 0 e' (by unfold maxLen;omega);have f1:(Builtin.zeroCells ei.zero.cells n++Builtin.zeroCells ei.zero.cells (grownCap w n 0 e' - n)).size=grownCap w n 0 e' * 1:=by
     simp only [WT,size_zeroCells,CG,CM,CE,Du];omega
    have f2:cR (aj c.M0 E L w).rd (List.replicate n [d]).flatten ((Builtin.zeroCells ei.zero.cells n++Builtin.zeroCells ei.zero.cells (grownCap w n 0 e' - n)).toList.take ((List.replicate n [d]).length * 1)):=by
     rw [Pu,CG,oc,R9,xh];rw [KW (by simp),gx (by simp)];exact l1
    have kk:aO w (w.drew.alloc (.cells (Builtin.zeroCells ei.zero.cells n++Builtin.zeroCells ei.zero.cells (grownCap w n 0 e' - n)) e')):=(aO.drew w).trans (aO.alloc w.drew _);obtain ⟨bP,hle⟩:=hk.newRow hc kk (e:=e') (xs:=List.replicate n [d]) sh S6 l4 (heap_alloc_new w.drew _) f1 (by rw [R9];exact rl) i_ (cR.mono pR.rd f2);rw [fW] at bP hle;refine ⟨_,_,_,_,_,hr,h3,bP,tr hle,?_⟩;rw [<-fW];have:=cO (M0:=c.M0) (E:=E) (L:=L.set j .dead) (e:=e') (n:=1) (xs:=List.replicate n [d]) (sh:=sh) (heap_alloc_new w.drew (.cells (Builtin.zeroCells ei.zero.cells n++Builtin.zeroCells ei.zero.cells (grownCap w n 0 e' - n)) e')) f1
    rwa [R9] at this
 | some b =>
   rw [hE] at gC hrel;obtain ⟨cap,cur,rfl,hh,da⟩:=hrel;obtain ⟨ek,cur',nY,nx,ND,PF,CW⟩:=gC;rw [hh] at nY;cases nY
   have xn:cap=ek:=oM;subst xn;rw [xh] at da CW;have qL:(xs++List.replicate n [d]).length=xs.length+n:=by simp
   have bK:∀ cs∈xs++List.replicate n [d],cs.length=1:=by
    intro cs ck;rcases gA.1 ck with h|h
    ·exact tI cs h
    ·exact l4 cs h
   have xx:(cur.toList.take xs.length).length=xs.length:=by rw [mw,lU (xs:=cur)];omega
   rcases Hk n with rfl|hnp
   ·simp only [List.replicate_zero,gR] at h3;obtain ⟨bP,hle⟩:=hs.relabel bC (zs:=xs) (eQ _) (hs.fQ j _ bC);refine ⟨_,_,_,_,_,la w t t' ty e' info kq kn hu yH k1 _ _ _ ND,h3,bP,hle,?_⟩;rw [hE];have:=cO (M0:=c.M0) (E:=E) (L:=L.set j .dead) (w:=w) (e:=e') (n:=1) (xs:=xs) (sh:=sh) hh (by omega:cur.size=cap * 1);rw [fW] at this;exact this
   ·by_cases eh:xs.length+n<=cap
    ·have hr:=rA (P:=P) w t t' ty e' info ei.zero kq kn hu yH k1 k2 AZ CG pB b xs.length cap cur hh n hnp oM S7 eh oM;have CV:(cur.toList.take xs.length++List.replicate n ei.zero++cur.toList.drop (xs.length+n)).toArray.toList.take (xs.length * 1)=cur.toList.take (xs.length * 1):=by
      simp only [uf,xh];rw [KW oM,WW,zfJ]
     have S8:(cur.toList.take xs.length++List.replicate n ei.zero++cur.toList.drop (xs.length+n)).toArray.size=cur.size:=by
      simp only [CM,iQ,mw,tf,lU,R9];omega
     obtain ⟨dR,eX⟩:=hs.write bC hE hh (cur':=(cur.toList.take xs.length++List.replicate n ei.zero++cur.toList.drop (xs.length+n)).toArray) S8 CV;have KH:=setRow_heap w b cur (cur.toList.take xs.length++List.replicate n ei.zero++cur.toList.drop (xs.length+n)).toArray e' (0,0) hh;have j8:(cur.toList.take xs.length++List.replicate n ei.zero++cur.toList.drop (xs.length+n)).toArray.size=cap * 1:=oM;obtain ⟨e_,jG⟩:=dR.relabel bC (zs:=xs++List.replicate n [d]) (by simp) (by
      rw [hE];refine ⟨S6,bK,cap,_,KH,j8,oM,PF,?_⟩;rw [RG];refine cR.mono eX.rd ?_;have e1:(cur.toList.take xs.length++List.replicate n ei.zero++cur.toList.drop (xs.length+n)).toArray.toList.take ((xs++List.replicate n [d]).length * 1)=cur.toList.take xs.length++List.replicate n ei.zero:=by
       have:(xs++List.replicate n [d]).length * 1=(cur.toList.take xs.length++List.replicate n ei.zero).length:=by
        simp only [iQ,xx,R9,xh]
       rw [this];exact ze2
      rw [e1];exact cf CW l1)
     refine ⟨_,_,_,_,_,hr,h3,e_,(eX.trans jG),?_⟩;rw [hE];have:=cO (M0:=c.M0) (E:=E) (L:=L.set j .dead) (e:=e') (n:=1) (xs:=xs++List.replicate n [d]) (sh:=sh) KH j8;rw [fW,qL] at this;exact this
    ·have holds:∀ i u,(cur.toList.take xs.length)[i]? = some u->w.drew.cell? ((⟨b,0,none⟩:Addr).add i)=some u:=by
      intro i u hi;show w.cell? _=_;rw [add_lit _ rfl,gP,cell_of_row w b i cur e' (0,0) hh];rw [nX] at hi;split at hi
      ·simpa using hi
      ·cases hi
     have hold:=run_firstCells_some (P:=P) w.drew info.size xs.length ⟨b,0,none⟩ xs.length cap (cur.toList.take xs.length) (by rw [xx,AZ,xh]) holds;have hr:=Lib.run_append_grow_zeros (P:=P) w t t' ty e' info ei.zero kq kn hu yH k1 k2 (some ⟨b,0,none⟩) xs.length cap (cur.toList.take xs.length) hold n hnp oM oM oM S7
      (by rw [k4];exact growslice_fits oM hbound)
     have rl:=grownCap_ge w (xs.length+n) cap e';have i_:=grownCap_le_maxLen w (xs.length+n) cap e' (by unfold maxLen;omega);have f1:((cur.toList.take xs.length).toArray++Builtin.zeroCells ei.zero.cells n++Builtin.zeroCells ei.zero.cells (grownCap w (xs.length+n) cap e' - (xs.length+n))).size=grownCap w (xs.length+n) cap e' * 1:=by
      simp only [WT,size_zeroCells,CG,CM,CE,Du,xx];omega
     have f2:cR (aj c.M0 E L w).rd (xs++List.replicate n [d]).flatten (((cur.toList.take xs.length).toArray++Builtin.zeroCells ei.zero.cells n++Builtin.zeroCells ei.zero.cells (grownCap w (xs.length+n) cap e' - (xs.length+n))).toList.take ((xs++List.replicate n [d]).length * 1)):=by
      rw [Pu,Pu,CG,oc,qL,xh];have eM:(cur.toList.take xs.length++List.replicate n ei.zero).length=xs.length+n:=by rw [iQ,xx,R9]
      rw [show (cur.toList.take xs.length).toArray.toList=cur.toList.take xs.length from rfl,KW oM,gx oM,RG];exact cf CW l1
     have kk:aO w (w.drew.alloc (.cells ((cur.toList.take xs.length).toArray++Builtin.zeroCells ei.zero.cells n++Builtin.zeroCells ei.zero.cells (grownCap w (xs.length+n) cap e' - (xs.length+n))) e')):=(aO.drew w).trans (aO.alloc w.drew _);obtain ⟨bP,hle⟩:=hk.newRow hc kk (e:=e') (xs:=xs++List.replicate n [d]) sh S6 bK (heap_alloc_new w.drew _) f1 (by rw [qL];exact rl) i_ (cR.mono pR.rd f2);rw [fW] at bP hle;refine ⟨_,_,_,_,_,hr,h3,bP,tr hle,?_⟩;rw [<-fW,<-qL];exact cO (heap_alloc_new w.drew _) (by rw [qL];exact f1)
theorem tM:∀ (xs:List (List DV)),(∀ cs∈xs,cs.length=1)->∀ k:Nat,(xs.take k).flatten=xs.flatten.take k
 | [],_,k=>by simp
 | c :: r,hl,0=>by simp
 | c :: r,hl,k+1=>by
   have hc:c.length=1:=hl c (by simp);obtain ⟨x,rfl⟩:=List.length_eq_one_iff.1 hc;have:=tM r (λx hx=>hl x (by simp [hx])) k;simp only [ZG,va,this,Wy]
theorem tN:∀ (xs:List (List DV)),(∀ cs∈xs,cs.length=1)->∀ k:Nat,(xs.drop k).flatten=xs.flatten.drop k
 | [],_,k=>by simp
 | c :: r,hl,0=>by simp
 | c :: r,hl,k+1=>by
   have hc:c.length=1:=hl c (by simp);obtain ⟨x,rfl⟩:=List.length_eq_one_iff.1 hc;have:=tN r (λx hx=>hl x (by simp [hx])) k;simp only [zdQ,va,this,Wy]
def S9 (tt:TypeId->Option TI) (t:TypeId) (L:List AB) (dst src:AV) (K:AV->List AB->Prop):Prop :=
 lN tt t λi=>match bY i.desc with
  | some e=>lN tt e λei=>bif Nat.beq ei.size 1 then abp L 1 src λys L1=>match dst with
    | .sub j h=>fC L1 j λab=>match ab with
      | .row e' m xs sh=>match sh with
        | true=>False
        | false=>bif Nat.beq m 1 then h<=xs.length/\kZ L1 j (.row e' 1 (ys.take h++xs.drop (min ys.length h)) false) λL2=>K (.k (min ys.length h:Nat)) L2 else False
      | _=>False
    | _=>False
    else False
  | none=>False
theorem S_ {P:Program} {tt:TypeId->Option TI} (ht:cp P tt) {t t':TypeId} {c:Ctx} (hc:c.wf) {E:Nat->Option Nat} {L:List AB} {w:World} (hs:aI c E L w) {dst src:AV} {K:AV->List AB->Prop} (h:S9 tt t L dst src K) (ty:TypeId)
  {v u:Value} (hv:VR (aj c.M0 E L w) dst v) (hu:VR (aj c.M0 E L w) src u) :
  ∃ r w' av L',(Builtin.copy_ #[t,t'] ty #[v,u]).run P w = .ok r w'/\K av L'/\aI c E L' w'/\(aj c.M0 E L w).le (aj c.M0 E L' w')/\VR (aj c.M0 E L' w') av r:=by
 unfold S9 at h;replace h:=bI h;obtain ⟨i,hi,h⟩:=h;split at h
 rotate_left
 ·exact h.elim
 rename_i e he;replace h:=bI h;obtain ⟨ei,iw,h⟩:=h;have hd:i.desc = .slice e:=by
  revert he
  cases i.desc<;>simp [bY]
 obtain ⟨jw,_⟩:=ht t i hi;rw [hd] at jw;obtain ⟨_,info,k1,k2,k3,k4⟩:=ht e ei iw
 cases fR:Nat.beq ei.size 1 with
 | false=>rw [fR] at h;exact h.elim
 | true =>
 rw [fR] at h;simp only [jB] at h;have j8:=ie fR;have ZX:(P.info? e).map (·.size)=some 1:=by rw [k1];simp [k3,j8]
 replace h:=Xi hc hs oM h hu;obtain ⟨ys,L1,h,dR,eX,hyv⟩:=h;have uZ:=VR.mono eX _ _ hv;split at h
 rotate_left
 ·exact h.elim
 rename_i j n;replace h:=cq h;obtain ⟨ab,bC,h⟩:=h
 cases ab<;>simp only at h<;>first|exact h.elim|skip
 rename_i e' m xs sh
 cases sh<;>simp only at h<;>first|exact h.elim|skip
 cases hb:Nat.beq m 1 with
 | false=>rw [hb] at h;exact h.elim
 | true =>
 rw [hb] at h;simp only [jB] at h;have em:=ie hb;subst em;obtain ⟨RU,h⟩:=h;have hK:=ew h;simp only [VR] at uZ;obtain ⟨p,cap,rfl,_,_,bQ,eY,hrel⟩:=uZ;rw [bC] at eY;cases eY
 simp only [mF] at hrel;obtain ⟨b,hE,C0⟩:=hrel
 cases C0
 have fy:=dR.fQ j _ bC;obtain ⟨_,tI,gC⟩:=fy;rw [hE] at gC;obtain ⟨ek,cur,hh,da,ND,PF,CW⟩:=gC;rw [xh] at da CW;simp only [VR,VD] at hyv;obtain ⟨_,q,oG,rfl,hyc,hym,Ta,hq⟩:=hyv;have HZ:L1.set j (.row e' 1 xs false)=L1:=by
  apply WS;intro m;by_cases hm:m=j
  ·subst hm;rw [aD bC,bC]
  ·rw [al hm]
 have nothing:min ys.length n=0->∃ r w' av L',(Builtin.copy_ #[t,t'] ty #[.slice (some ⟨b,0 * 1+0,none⟩) n cap,.slice q ys.length oG]).run P w = .ok r w'/\K av L'/\aI c E L' w'/\(aj c.M0 E L w).le (aj c.M0 E L' w')/\VR (aj c.M0 E L' w') av r:=by
  intro h0;have e1:ys.take n++xs.drop (min ys.length n)=xs:=by
   rw [h0,RI];have:ys.take n=[]:=by
    apply oy;rw [mw];omega
   rw [this,tC]
  rw [e1,HZ,h0] at hK;refine ⟨_,w,_,_,run_copy_none (P:=P) w t t' ty e _ _ n cap ys.length oG jw ZX (by show min ys.length n=0;exact h0),hK,dR,eX,by simp [VR,VD,goInt]⟩
 rcases Hk (min ys.length n) with h0|afe
 ·exact nothing h0
 cases q with
 | none=>have:=Ta rfl;omega
 | some a =>
   obtain ⟨zu,_,tj⟩:=hq a rfl;rcases zu with ZS|gK
   ·subst ZS;simp at afe
   obtain ⟨us,l1,l2,l3⟩:=rk 1 tj gK;rw [xh] at l2;have RV:∀ cs∈ys,cs.length=1:=by
    intro cs ck;obtain ⟨i,hi⟩:=R8.1 ck;exact (pJ 1 tj gK hi).1
   have bR:(us.take n).length=min ys.length n:=by rw [mw,l2];omega
   have hr:=run_copy_row (P:=P) w t t' ty e b 0 n cap a ys.length oG cur e' (us.take n) jw ZX hh (by rw [bR]) (by
    intro j v hj;rw [nX] at hj;split at hj
    ·have:=l3 j v hj;rw [add_lit a gK];exact (f_ this rfl).1
    ·cases hj) oM (by
    intro v hv;exact pH l1 v (Fc hv))
   have SP:cur.toList.length=ek:=by rw [lU (xs:=cur),da]
   have sB:(ys.take n++xs.drop (min ys.length n)).length=xs.length:=by
    rw [iQ,mw,tf];omega
   have WI:∀ cs∈ys.take n++xs.drop (min ys.length n),cs.length=1:=by
    intro cs ck;rcases gA.1 ck with h|h
    ·exact RV cs (Fc h)
    ·exact tI cs (G5 h)
   obtain ⟨e_,jG⟩:=dR.rewrite bC hE hh (zs:=ys.take n++xs.drop (min ys.length n)) (cur':=(cur.toList.take 0++us.take n++cur.toList.drop (0+(us.take n).length)).toArray) (by
    rw [CM,iQ,iQ,tf,SP,bR,da];simp;omega) sB WI (by
    rw [sB,xh,RG,tM ys RV,tN xs tI];have e2:(cur.toList.take 0++us.take n++cur.toList.drop (0+(us.take n).length)).toArray.toList.take xs.length=us.take n++(cur.toList.take xs.length).drop (min ys.length n):=by
     simp only [zeO,tC,gP,bR];rw [ze4,bR,gx oM,List.drop_take]
    rw [e2];exact cf (gJ _ l1) (kP _ CW))
   exact ⟨_,_,_,_,hr,hK,e_,eX.trans jG,by simp [VR,VD,goInt,bR]⟩
end
end Go.Ab
