/- PrimaryExact: contracts. -/
import Derived.Test.YtolkmjfkkkiboaaGreatPrimaryExactCodC
import Derived.RangeFuncBox
import Derived.RangeFuncLeaves
import Derived.Shelf.Abstract
import Derived.Shelf.RegionOpen
import Derived.WalkKit
import Derived.OwnWalkIn
import Derived.TacticsInMore
import Derived.LoopNIn
import Derived.LoopIn
import Derived.Maps.AppendAt
set_option linter.all false
set_option maxHeartbeats 4000000
set_option maxRecDepth 100000
namespace Go.Proofs.YtolkmjfkkkiboaaGreat
open Go.Ab Go.RowKit Go.MapKept Tryz
attribute [local irreducible] ay AW cw eA eo bL
def bm (d:Dag) (c:Cert):List Int:=if c.round<=d.low+1 then [] else c.ao.filter λx => !(mW d.aa (c.round - 1)).any λy=>y.ae == x
theorem OR (d:Dag) (hd:d.fit) (c:Cert) (hc:aJ c.ao) (hr:gL c.round) (RX:1<=c.round) (fb:0<=d.low/\d.low<=1099511627776):zA 194 [d.av,c.pD] [] (pQ (.d (.sl 1 (nums (bm d c)))) []):=by
 have fT:=nums_length c.ao;have qx:aU (mW d.aa (c.round - 1)):=by
  have:=hd.aU;unfold aU at this ⊢;exact fS (mv ..) this
 unfold aJ at hc;unfold gL at hr;refine gG func194 ntmps194 ?_;repeat' (apply tw<;>intro _)
 ·rename_i h;rw [bm,bp h];exact ⟨rfl,rfl⟩
 ·rename_i h;rw [bm,aR h];refine (rS d hd (c.round - 1) (by unfold gL;omega)).mono ?_;rintro _ _ ⟨rfl,rfl⟩;obtain ⟨A,hA⟩:∃ A,mW d.aa (c.round - 1)=A:=⟨_,rfl⟩;rw [hA] at qx ⊢
  conv=>whnf
  refine aH aF bf aG (σ:=Nat) (λj=>([(5,.d (.sl 6 (ah A))),(20,.d (.sl 1 (nums c.ao))),(21,.k c.ao.length),(22,.k j),(4,.arr 0)],[.row 3 1 (nums ((c.ao.take j).filter λx => !A.any λy=>y.ae == x)) false])) (λj=>j<=c.ao.length) (λj=>c.ao.length - j) [5,20,21,22,4] ?_ ?_
  ·conv=>whnf
   exact ⟨0,by rw [fT];rfl,rfl,br _⟩
  ·intro j hj;have KM:(nums ((c.ao.take j).filter λx => !A.any λy=>y.ae == x)).length<=c.ao.length:=by rw [nums_length];exact fS (mv ..) (CB ..)
   refine rdv ?_;repeat' (apply tw<;>intro _)
   ·rename_i dM;refine eG c.ao j λx hx=>?_;refine ⟨oM,[.j x],bD hx,?_⟩
    conv=>whnf
    refine (Gj A qx x).mono ?_;rintro _ _ ⟨rfl,rfl⟩;have dq:∀ b,(A.any λy=>y.ae == x)=b->(c.ao.take (j+1)).filter (λx => !A.any λy=>y.ae == x)=(c.ao.take j).filter (λx => !A.any λy=>y.ae == x)++(if b then [] else [x]):=by
     intro b hb;rw [iu,hx,CC]
     cases b<;>simp [Ff,hb]
    obtain ⟨b,hb⟩:∃ b,(A.any λy=>y.ae == x)=b:=⟨_,rfl⟩;rw [hb];replace dq:=dq b hb
    cases b with
    | true =>
      refine rdv ?_;exact ⟨j+1,rfl,by rw [dq];simp,oM,oM⟩
    | false =>
      refine rdv ?_;refine ⟨by simp;omega,?_⟩;refine rdv ?_;refine ⟨j+1,rfl,?_,oM,oM⟩;rw [dq,<-db];rfl
   ·rename_i dM;obtain rfl:j=c.ao.length:=oM;rw [lD];exact ⟨rfl,rfl⟩
def cJ (d:Dag) (c:Cert):Int :=
 if c.round<=d.low then 6 else match y3 d.aa c.round c.af with
  | some y=>if y.ae=c.ae then 4 else 5
  | none=>if d.aa.any (λy=>y.ae == c.ae) then 5 else if bm d c=[] then 0 else 7
def ye (d:Dag) (c:Cert):Dag:=⟨d.nodes,d.low,d.aa.take (pos d.aa c.round c.af)++c :: d.aa.drop (pos d.aa c.round c.af)⟩
theorem Yy (l:List Cert) (c:Cert) (i:Nat):(ah l).take i++c.cs :: (ah l).drop i=ah (l.take i++c :: l.drop i):=by simp [ah]
theorem qg (l:List Cert) (c:Cert) (i:Nat) (hi:i<=l.length) (hl:l.length<=4294967296):zA 195 [.arr 0,.k i,.arr 1] [.row 47 6 (ah l) false,.row 47 6 [c.cs] false] (pQ (.arr 2) [.dead,.row 47 6 [c.cs] false,.row 47 6 (ah (l.take i++c :: l.drop i)) false]):=by
 have bR:=ak l;rcases Nat.lt_or_eq_of_le hi with h|h
 ·have:=Da (ah l) c.cs i oM oM;rw [Yy] at this;exact this
 ·subst h;have:=BL (ah l) (λcs ck=>by obtain ⟨c,_,rfl⟩:=px.1 ck;rfl) c.cs rfl oM;rw [bR] at this;rw [lD,ze6];simpa [ah] using this
theorem Jh (d:Dag) (hd:d.fit) (hl:d.aa.length<=4294967296) (fb:0<=d.low/\d.low<=1099511627776) (c:Cert) (hc:c.aJ) (hr:gL c.round) (RX:1<=c.round) (ha:gL c.af) :
  zA 158 [d.av,c.av] [] (λav L=>(cJ d c≠0/\av = .tup [d.av,.k (cJ d c)]/\L=[])∨(cJ d c=0/\av = .tup [.agg [.k d.nodes,.k d.low,.arr 0],.k 0]/\L=[.row 47 6 (ah (ye d c).aa) false])):=by
 have bR:=ak d.aa;have pA:=OR d hd c hc.ao hr RX fb;have Db:=hd.aU;have hps:=uI d.aa c.round c.af;refine CI func158 ntmps158 ?_;refine cP Oz ?_;refine aQ (jn c) ?_;refine (wb d.aa c.round c.af hd.aU hd.sorted hd.fit hr ha).mono ?_;rintro _ _ ⟨rfl,rfl⟩
 cases ij:y3 d.aa c.round c.af with
 | none =>
   refine rdv ?_;repeat' (apply tw<;>intro _)
   ·rename_i h;have e:cJ d c=6:=by rw [cJ,bp h]
    rw [e];exact .inl ⟨dC,rfl,rfl⟩
   ·rename_i h;refine cP Af ?_;refine (Gj d.aa hd.aU c.ae).mono ?_;rintro _ _ ⟨rfl,rfl⟩
    cases Mf:d.aa.any (λy=>y.ae == c.ae) with
    | true =>
      have e:cJ d c=5:=by rw [cJ,aR h,ij];simp [Mf]
      refine rdv ?_;rw [e];exact .inl ⟨dC,rfl,rfl⟩
    | false =>
      refine rdv ?_;refine pA.mono ?_;rintro _ _ ⟨rfl,rfl⟩;obtain ⟨lk,BM⟩:∃ lk,bm d c=lk:=⟨_,rfl⟩;rw [BM]
      cases lk with
      | cons x r =>
        have e:cJ d c=7:=by rw [cJ,aR h,ij];simp [Mf,BM]
        refine rdv ?_;repeat' (apply tw<;>intro _)
        ·rw [e];exact .inl ⟨dC,rfl,rfl⟩
        ·rename_i hx;exact absurd (by show ((0:Int)<((nums (x :: r)).length:Int));rw [nums_length];simp) hx
      | nil =>
        have e:cJ d c=0:=by rw [cJ,aR h,ij];simp [Mf,BM]
        refine rdv ?_;refine cP I4 ?_;refine aQ (sQ d.aa oM) ?_;refine aQ (m7 c hc) ?_
        (refine Or.inr ?_;(conv=>whnf))
        refine aQ (qg d.aa c _ hps hl) ?_;exact .inr ⟨e,rfl,rfl⟩
 | some y =>
   have UP:d.aa[pos d.aa c.round c.af]? = some y:=by
    rw [sN hd.sorted] at ij;exact (zd8.1 ij).1
   have bB:=(dW.1 UP).1;refine rdv ?_;repeat' (apply tw<;>intro _)
   ·rename_i h;have e:cJ d c=6:=by rw [cJ,bp h]
    rw [e];exact .inl ⟨dC,rfl,rfl⟩
   ·rename_i h;refine cP Af ?_
    ((with_reducible apply aC);(focus (intro K hK;(conv=>whnf);exact ⟨oM,y.cs,aB UP,hK⟩));(conv=>whnf))
    refine eF ?_;repeat' (apply tw<;>intro _)
    ·rename_i h2;have e:cJ d c=4:=by rw [cJ,aR h,ij];simp [h2]
     rw [e];exact .inl ⟨dC,rfl,rfl⟩
    ·rename_i h2;have e:cJ d c=5:=by rw [cJ,aR h,ij];simp [h2]
     rw [e];exact .inl ⟨dC,rfl,rfl⟩
def gH (d:Dag) (c:Cert):Dag:=if cJ d c=0 then ye d c else d
theorem OS (d:Dag) (hd:d.fit) (hl:d.aa.length<=4294967296) (fb:0<=d.low/\d.low<=1099511627776) (c:Cert) (hc:c.aJ) (hr:gL c.round) (RX:1<=c.round) (ha:gL c.af) :
  zA 158 [d.av,c.av] [] (pQ (.tup [(gH d c).av,.k (cJ d c)]) []):=by
 refine bT (Jh d hd hl fb c hc hr RX ha) ?_;rintro _ _ (⟨h,rfl,rfl⟩|⟨h,rfl,rfl⟩)
 ·rw [gH,aR h]
  conv=>whnf
  exact ⟨rfl,rfl⟩
 ·rw [gH,bp h,h]
  conv=>whnf
  exact ⟨rfl,rfl⟩
end Go.Proofs.YtolkmjfkkkiboaaGreat
namespace Go.Proofs.YtolkmjfkkkiboaaGreat
open Go Go.Ab Go.RowKit Go.Shelf Tryz
attribute [local go_sem] Oper.semAt_some
def chv (b off len k:Nat):Value := .slice (some ⟨b,off+16 * k,none⟩) (min 16 (len - 16 * k)) (min 16 (len - 16 * k))
def qV (len:Nat):Nat:=(len+15) / 16
theorem Ji (w:World) (row:Option Nat):w.grownBy w.drew row:=⟨rfl,rfl,rfl,eQ _,λ_ _ _=>rfl⟩
theorem Jj (n:Nat) (w:World):Below n w w.drew:=⟨rfl,rfl,rfl,eQ _,λ_ _=>rfl⟩
set_option maxRecDepth 100000 in
theorem Ql (F:Fence) (n:Nat) (h7:F.fn 257) (Mg:F.round=none) (hn:1<=n) (l Bs Bn Dc b off len cap:Nat) (aiV:len<=1000000) (gT:len<=cap) (afT:cap<=maxLen) (hb:Bs<Dc) (iR:Bn<Dc) (J Jx:List Nat->World->Prop)
  (hA:∀ s A,J s A->J s A.drew)
  (hY:∀ pre x W,J pre W->pre.length<qV len->YieldAt F (n - 1) prog l #[chv b off len x] W λe W' =>
    (e = .returned (.bool true)/\J (pre++[x]) W'/\Below Dc W W')∨(e = .returned (.bool false)/\Jx (pre++[x]) W'))
  (W:World) (UQ:W.cell? ⟨Bs,0,none⟩=some (.slice (some ⟨b,off,none⟩) len cap)) (Yz:W.cell? ⟨Bn,0,none⟩=some (.j 16)) (h0:J [] W) :
  CallsIn F n prog 257 #[.func (.yield l) #[] #[],.pointer (some ⟨Bs,0,none⟩),.pointer (some ⟨Bn,0,none⟩)] W λe W'=>(∃ v,e = .returned v) /\
   ((∃ ys,ys=List.range (qV len)/\J ys W')∨(∃ pre,(∃ k,k<=qV len/\pre=List.range k)/\Jx pre W')):=by
 refine callsIn_of_wp func257 rfl h7 ?_ Mg;simp only [ntmps257,CM,CE,Du,Nat.reduceAdd,Nat.reduceSub,zeA,zeB,zeY,zeJ,tC,KX];have mixed:=cB
 gi_wp2
 gi_loopw [4] (λi wr=>∃ k:Nat,16 * k<len+16/\i = .j (16 * k:Nat)/\J (List.range k) wr/\Below Dc W wr)
  (λi _=>len+16 - (intOf i).toNat)
 case atStart=>exact ⟨0,oM,rfl,h0,Below.refl _ _⟩
 case round =>
  obtain ⟨k,hk,rfl,hJs,RU⟩:=hrel;have ck:=(RU.cell (p:=⟨Bs,0,none⟩) hb).trans UQ;have dS:=(RU.cell (p:=⟨Bn,0,none⟩) iR).trans Yz;by_cases bB:16 * k<len
  ·gi_wp2
   gi_region_with_o (gi_in)
   all_goals
    obtain ⟨fn,tmps,assign,body,hy,hR⟩:=hY _ k wr.drew (hA _ _ hJs) (by simp [qV];omega);have SN:wr.drew.cell? ⟨Bs,0,none⟩=_:=ck;have aiW:wr.drew.cell? ⟨Bn,0,none⟩=_:=dS;have UR:min (16:Int) ((len - 16 * k:Nat):Int)=(min 16 (len - 16 * k):Nat):=oM;rw [UR];obtain ⟨m,hm⟩:∃ m,min 16 (len - 16 * k)=m:=⟨_,rfl⟩;rw [hm];simp only [chv,hm] at hy
    gi_wp2
    refine hR.mono ?_;rintro e W3 (⟨rfl,hJ3,hk3⟩|⟨rfl,acK⟩)
    ·have amq:W3.cell? ⟨Bn,0,none⟩=_:=(hk3.cell (p:=⟨Bn,0,none⟩) iR).trans aiW
     gi_wp2
     go_roundw
     case rel=>exact ⟨k+1,oM,by simp;omega,by rw [zfE];exact hJ3,RU.trans ((Jj _ _).trans hk3)⟩
     case measure=>simp [intOf];omega
    ·gi_wp2
     refine bodyPost_ret (results_none rfl _ _ _) rfl ?_;exact ⟨⟨_,rfl⟩,.inr ⟨_,⟨k+1,by unfold qV;omega,zfE.symm⟩,acK⟩⟩
  ·gi_wp2
   go_end0
   exact ⟨⟨_,rfl⟩,.inl ⟨_,rfl,by rw [show qV len=k by unfold qV;omega];exact hJs⟩⟩
attribute [local go_sem] Oper.semAt_some
set_option maxRecDepth 100000 in
theorem Mh (F:Fence) (n:Nat) (h7:F.fn 257) (Mg:F.round=none) (l Bs Bn:Nat) (a:Option Addr) (cap:Nat) (J:List Nat->World->Prop) (W:World) (UQ:W.cell? ⟨Bs,0,none⟩=some (.slice a 0 cap)) (h0:J [] W) :
  CallsIn F n prog 257 #[.func (.yield l) #[] #[],.pointer (some ⟨Bs,0,none⟩),.pointer (some ⟨Bn,0,none⟩)] W λe W'=>(∃ v,e = .returned v)/\J [] W':=by
 refine callsIn_of_wp func257 rfl h7 ?_ Mg;simp only [ntmps257,CM,CE,Du,Nat.reduceAdd,Nat.reduceSub,zeA,zeB,zeY,zeJ,tC,KX]
 gi_wp2
 gi_loopw [4] (λi wr=>i = .j 0/\J [] wr/\wr.cell? ⟨Bs,0,none⟩=some (.slice a 0 cap)) (λ_ _=>0)
 case atStart=>exact ⟨rfl,h0,UQ⟩
 case round =>
  obtain ⟨rfl,hJs,amr⟩:=hrel
  gi_wp2
  go_end0
  exact ⟨⟨_,rfl⟩,hJs⟩
def Dd:Value->Nat->Value
 | .slice (some a) len _,k=>chv a.block a.off len k
 | _,_ => .slice none 0 0
def y5:Value->Nat
 | .slice _ len _=>qV len
 | _=>0
theorem Jk (F:Fence) (n:Nat) (h7:F.fn 257) (Mg:F.round=none) (hn:1<=n) (Bs Bn Dc:Nat) (sv:Value) (w:World) (aar:Dc<=w.heap.size) (UQ:Bs<Dc) (Yz:Bn<Dc)
  (KJ:(∃ a cap,sv = .slice a 0 cap)∨∃ b off len cap,sv = .slice (some ⟨b,off,none⟩) len cap/\len<=1000000/\len<=cap/\cap<=maxLen)
  (hc:w.cell? ⟨Bs,0,none⟩=some sv) (ri:w.cell? ⟨Bn,0,none⟩=some (.j 16)) :
  SeqStopsK F n prog 257 #[.pointer (some ⟨Bs,0,none⟩),.pointer (some ⟨Bn,0,none⟩)] (λx:Nat => #[Dd sv x]) (Below Dc) (λys=>ys=List.range (y5 sv)) (λ_=>True) (y5 sv) w:=λl J Jx W hW hJ _ hY h0=>by
 have kc:=(hW.cell (p:=⟨Bs,0,none⟩) (kO UQ aar)).trans hc;have aiY:=(hW.cell (p:=⟨Bn,0,none⟩) (kO Yz aar)).trans ri;rcases KJ with ⟨a,cap,rfl⟩|⟨b,off,len,cap,rfl,h1,h2,h3⟩
 ·exact (Mh F n h7 Mg l Bs Bn a cap J W kc h0).mono λe W' ⟨he,hj⟩=>⟨he,.inl ⟨_,rfl,hj⟩⟩
 ·refine (Ql F n h7 Mg hn l Bs Bn Dc b off len cap h1 h2 h3 UQ Yz J Jx (λs A hs=>hJ s A A.drew none hs (Ji _ _) (λr e=>by cases e)) hY W kc aiY h0).mono ?_;rintro e W' ⟨he,⟨ys,rfl,hj⟩|⟨pre,_,hj⟩⟩
  ·exact ⟨he,.inl ⟨_,rfl,hj⟩⟩
  ·exact ⟨he,.inr ⟨_,trivial,hj⟩⟩
theorem acL:(prog.info? 22).map (λi=>(i.zero,i.size,i.bytes))=some (some (.slice none 0 0),1,24):=kR
set_option maxRecDepth 100000 in
theorem Gl (F:Fence) (n:Nat) (h3:F.fn 256) (h5:F.fn 257) (Mg:F.round=none) (hn:3<=n) (Bs Bn:Nat) (sv:Value) (w:World) (UQ:Bs<w.heap.size) (Yz:Bn<w.heap.size)
  (KJ:(∃ a cap,sv = .slice a 0 cap)∨∃ b off len cap,sv = .slice (some ⟨b,off,none⟩) len cap/\len<=1000000/\len<=cap/\cap<=maxLen)
  (hc:w.cell? ⟨Bs,0,none⟩=some sv) (ri:w.cell? ⟨Bn,0,none⟩=some (.j 16)) :
  CallsIn F n prog 256 #[.slice none 0 0,.func (.func 257) #[] #[.pointer (some ⟨Bs,0,none⟩),.pointer (some ⟨Bn,0,none⟩)]] w λe W'=>∃ v,e = .returned v/\W'.ownsRow w.heap.size 22 1 v (y5 sv) ((List.range (y5 sv)).map (Dd sv))/\Below w.heap.size w W':=by
 have h1:1<=n:=oM;obtain ⟨i0,hi,vr,pB,oA⟩:=info_parts acL;have bR:y5 sv<=1000000:=by
  rcases KJ with ⟨a,cap,rfl⟩|⟨b,off,len,cap,rfl,h1,h2,h3⟩
  ·exact br _
  ·show qV len<=_;unfold qV;omega
 refine callsIn_of_wp_marks func256 rfl h3 ?_ Mg;simp only [ntmps256,CM,CE,Du,Nat.reduceAdd,Nat.reduceSub,zeA,zeB,zeY,zeJ,tC,KX]
 gi_wp2
 have bO:=Boxed.new w 221 (.slice none 0 0);have vo:=Jk F (n - 1) h5 Mg oM Bs Bn w.heap.size sv (w.alloc (.cells #[.slice none 0 0] 221)) (by simp) UQ Yz KJ ((((Below.refl w.heap.size w).alloc (eQ _) _).cell (p:=⟨Bs,0,none⟩) UQ).trans hc) ((((Below.refl w.heap.size w).alloc (eQ _) _).cell (p:=⟨Bn,0,none⟩) Yz).trans ri);have hB0:Below w.heap.size w (w.alloc (.cells #[.slice none 0 0] 221)):=(Below.refl _ w).alloc (eQ _) _;refine wpIn_rangeFunc_ownG Mg h1 (gf:=257) (lb := #[.pointer (some ⟨Bs,0,none⟩),.pointer (some ⟨Bn,0,none⟩)]) rfl h5 (enters_of func257 kR rfl)
  vo belowK_t (belowK_b (by simp)) (Below.refl _ _) (λ_=>rfl)
  (λpre W=>(∃ v,Boxed W w.heap.size 221 v/\W.ownsRow w.heap.size 22 1 v pre.length (pre.map (Dd sv))/\(v = .slice none 0 0↔pre=[]))/\Below w.heap.size w W)
  (λ_ _ _=>False)
  (OwnFrom.and (Own.from (holdsRow_own w.heap.size w.heap.size 221 22 1 (λpre=>pre.length) (λpre=>pre.map (Dd sv)) (λpre v=>v = .slice none 0 0↔pre=[])) _) (ownFrom_below (eQ _) (by simp)))
  (λ_ _ _ _ _ hs _ _=>hs)
  ⟨⟨_,bO,World.ownsRow_nil _ _ _ _,by simp⟩,hB0⟩
  (λx=>{ tmps := #[.slice none 0 0,.func (.func 257) #[] #[.pointer (some ⟨Bs,0,none⟩),.pointer (some ⟨Bn,0,none⟩)],.pointer (some ⟨w.heap.size,0,none⟩),undef,.slice none 0 0,Dd sv x,.func (.func 257) #[] #[.pointer (some ⟨Bs,0,none⟩),.pointer (some ⟨Bn,0,none⟩)],Dd sv x,undef,undef,undef,undef,undef],defers:=[] }) ?assign ?body ?done ?stop
 case assign =>
  intro l x W K hK
  gi_wp2
  exact hK
 case body =>
  rintro l pre x W ⟨⟨v,hv,qT,nw⟩,hB⟩ bB;have hc:=hv.cell;have zy:(1000001:Nat)<=maxLen:=dC;obtain ⟨xp,xq,xr,hx⟩:∃ p q r,Dd sv x = .slice p q r:=by unfold Dd;split<;>exact ⟨_,_,_,rfl⟩
  simp only [hx]
  gi_wp2_with (gi_at_builtin;refine wpListIn_append_own _ rfl _ _ 221 rfl w.heap.size 22 i0 (.slice none 0 0) 1 24 Tryz.underlying221 hi vr pB oA rfl dC _ _ _ rfl (qT.alloc _) ⟨W.heap.size,0,none⟩ 1 1 [.slice xp xq xr] rfl rfl (cell_one_new _ _ _) (by simp [Value.oneCell']) oM oM (by have:=hB.size;simp;omega) ?_;intro v' w1 aas afU _;obtain ⟨g',ek,rfl⟩:=ownsRow_succ aas;obtain ⟨uZ,oz,hr2,hk2,iR⟩:=hv.appended dC qT hB.size (eQ _) aas afU;have lp:=uZ.cell;have RL:=uZ.frozen)
  exact ⟨hk2.from _,iR,⟨_,oz,by simpa [hx] using hr2,by simp⟩,hB.trans iR⟩
 case done =>
  rintro D ys W hD rfl ⟨⟨v,hv,qT,nw⟩,hB⟩ hK;have hc:=hv.cell
  gi_wp2
  refine ⟨by simp,.inl ⟨_,_,rfl,run_takeDeferred hK,?_⟩⟩;refine ⟨_,results_tmp rfl _ _ _,v,rfl,?_,hB.trans (belowK_b (w:=w) (eQ _) W D _ _ (by simp at hD;omega) hK rfl rfl)⟩;have:=ownsRow_putObj qT (.deferred none) hK rfl;simpa using this
 case stop =>
  rintro D c pre W _ _ h _;exact h.elim
set_option maxRecDepth 100000 in
theorem Mi (F:Fence) (n:Nat) (h2:F.fn 235) (h3:F.fn 256) (h5:F.fn 257) (Mg:F.round=none) (hn:4<=n) (Bs Bn:Nat) (sv:Value) (w:World) (UQ:Bs<w.heap.size) (Yz:Bn<w.heap.size)
  (KJ:(∃ a cap,sv = .slice a 0 cap)∨∃ b off len cap,sv = .slice (some ⟨b,off,none⟩) len cap/\len<=1000000/\len<=cap/\cap<=maxLen)
  (hc:w.cell? ⟨Bs,0,none⟩=some sv) (ri:w.cell? ⟨Bn,0,none⟩=some (.j 16)) :
  CallsIn F n prog 235 #[.func (.func 257) #[] #[.pointer (some ⟨Bs,0,none⟩),.pointer (some ⟨Bn,0,none⟩)]] w λe W'=>∃ v,e = .returned v/\W'.ownsRow w.heap.size 22 1 v (y5 sv) ((List.range (y5 sv)).map (Dd sv))/\Below w.heap.size w W':=by
 have h1:1<=n:=oM;refine callsIn_of_wp func235 rfl h2 ?_ Mg;simp only [ntmps235,CM,CE,Du,Nat.reduceAdd,Nat.reduceSub,zeA,zeB,zeY,zeJ,tC,KX]
 gi_wp2_with (gi_at_call 256;refine (Gl F (n - 1) h3 h5 Mg oM Bs Bn sv _ UQ Yz KJ hc ri).mono ?_;rintro e w' ⟨v,rfl,qT,aiZ⟩)
 go_ret
 exact ⟨_,rfl,qT,aiZ⟩
def m8 (l:List Int) (k:Nat):List Int:=(l.drop (16 * k)).take 16
def cj (l:List Int):List (List Int):=(List.range (qV l.length)).map (m8 l)
def lQ (l:List (List Int)):List (List DV):=l.map λx=>[.sl 1 (nums x)]
theorem wo (l:List (List Int)):(lQ l).length=l.length:=tg ..
theorem acM {rd:Addr->Value->Prop} {l:List Int} {b off cap:Nat} (hl:l.length<=1000000) (ZR:l.length<=cap) (CV:∀ o' c',o'+c'<=cap->0<c'->rd ⟨b,off+o',some 1⟩ (.slice (some ⟨b,off+o',none⟩) 0 c')) (hv:jC rd 1 (nums l) ⟨b,off,none⟩) {k:Nat} (hk:k<qV l.length):VD rd (.sl 1 (nums (m8 l k))) (chv b off l.length k):=by
 have zy:(1000001:Nat)<=maxLen:=dC;have hlen:(nums (m8 l k)).length=min 16 (l.length - 16 * k):=by rw [nums_length,m8,mw,tf]
 have h1:nums (m8 l k)=((nums l).drop (16 * k)).take 16:=by simp [nums,m8]
 simp only [VD];refine ⟨oM,some ⟨b,off+16 * k,none⟩,min 16 (l.length - 16 * k),?_,oM,oM,(λh=>by cases h),λa' ha=>?_⟩
 ·rw [hlen];rfl
 ·cases ha
  refine ⟨.inr rfl,λhc=>CV (16 * k) _ oM hc,?_⟩;rw [h1];have:=vq 1 (16 * k) rfl hv;rw [xh] at this;exact vp 1 16 this
theorem Jl {rd:Addr->Value->Prop} {l:List Int} {b off cap:Nat} (hl:l.length<=1000000) (ZR:l.length<=cap) (CV:∀ o' c',o'+c'<=cap->0<c'->rd ⟨b,off+o',some 1⟩ (.slice (some ⟨b,off+o',none⟩) 0 c')) (hv:jC rd 1 (nums l) ⟨b,off,none⟩):∀ (ks:List Nat),(∀ k∈ks,k<qV l.length)->cR rd (lQ (ks.map (m8 l))).flatten (ks.map (chv b off l.length))
 | [],_=>by simp [lQ,cR,Cs]
 | k :: ks,h=>by
   have ih:=Jl (cap:=cap) hl ZR CV hv ks λx hx=>h x (xg _ hx);simp only [lQ,Dv,va,Wy,cR,Cs] at ih ⊢;exact ⟨_,_,rfl,by simp [chv,Value.oneCell'],acM (cap:=cap) hl ZR CV hv (h k (List.mem_cons_self ..)),ih⟩
theorem Mj (l:List Int) (hl:l.length<=1000000):zA 235 [.fn 257 [.ptr 0 0,.ptr 1 0]] [.cells [.d (.sl 1 (nums l))],.cells [.k 16]] (pQ (.arr 2) [.cells [.d (.sl 1 (nums l))],.cells [.k 16],.row 22 1 (lQ (cj l)) false]):=by
 intro c vs hc He hs hv;simp only [cD,VR] at hv;obtain ⟨u,dt,kQ,⟨qI,rfl,u1,us1,ak1,⟨b0,hp0,rfl⟩,u2,us2,rfl,⟨b1,hp1,rfl⟩,rfl⟩,rfl⟩:=hv;obtain ⟨cU,ha0,_,hE0⟩:=hp0;obtain ⟨iS,ha1,_,xS⟩:=hp1;have fR:=hs.fQ 0 _ rfl;have eS:=hs.fQ 1 _ rfl;rw [hE0] at fR;rw [xS] at eS;simp only [BR] at fR eS;obtain ⟨b0',T8,e0,heq,hh0,Jc⟩:=fR
 cases heq
 obtain ⟨b1',gF,e1,heq,KH,afV⟩:=eS
 cases heq
 simp only [eK,VR,VD] at Jc afV;obtain ⟨sv,_,aat,_,KJ,rfl⟩:=Jc;obtain ⟨nv,_,afW,_,hnv,rfl⟩:=afV;subst hnv;obtain ⟨_,a,cap,rfl,US,afT,tH,afX⟩:=KJ;rw [nums_length] at US aat;have Hc:c.w0.cell? ⟨b0,0,none⟩=some (.slice a l.length cap):=by
  have lp:T8 = #[.slice a l.length cap]:=by cases T8;simpa using aat
  simp [World.cell?,hh0,lp]
 have lp:c.w0.cell? ⟨b1,0,none⟩=some (.j 16):=by
  have lp:gF = #[.j 16]:=by cases gF;simpa using afW
  simp [World.cell?,KH,lp]
 have KJ:(∃ a' ek,Value.slice a l.length cap = .slice a' 0 ek)∨∃ b off len ek,Value.slice a l.length cap = .slice (some ⟨b,off,none⟩) len ek/\len<=1000000/\len<=ek/\ek<=maxLen:=by
  cases a with
  | none =>
    have:=tH rfl;exact .inl ⟨none,cap,by rw [show l.length=0 by omega]⟩
  | some a =>
    rcases (afX a rfl).1 with h|h
    ·have:l=[]:=by simpa [nums] using h
     subst this;exact .inl ⟨some a,cap,rfl⟩
    ·obtain ⟨b,off,sp⟩:=a;simp only at h;subst h;exact .inr ⟨b,off,l.length,cap,rfl,hl,US,oM⟩
 have vE:=Mi Fence.wide 4 trivial trivial trivial rfl oM b0 b1 _ c.w0 (ud.1 hh0).1 (ud.1 KH).1 KJ Hc lp;have j7:vs = #[.func (.func 257) #[] #[.pointer (some ⟨b0,0,none⟩),.pointer (some ⟨b1,0,none⟩)]]:=by cases vs;cases qI;simp_all
 rw [j7];refine (callsIn_wide.1 vE).mono ?_;rintro e w' ⟨v,rfl,⟨hrl,qT⟩,hb⟩;have D8:aO c.w0 w':=⟨hb.os,hb.tape,hb.output,hb.size,hb.block⟩;have bR:y5 (.slice a l.length cap)=qV l.length:=rfl;have Jm:(lQ (cj l)).length=qV l.length:=by rw [wo,cj];simp
 rw [bR] at qT;rcases qT with ⟨rfl,h0⟩|⟨g,afY,cur,rfl,hg,hhg,ak3,afZ,ck,af0⟩
 ·have hx:lQ (cj l)=[]:=oy oM;rw [hx];refine ⟨_,.arr 2,_,ca c.E0 2 none,rfl,⟨rfl,rfl⟩,hs.extend hc D8 (.row 22 1 [] false) none (λb h=>by cases h) (λb h=>by simp [AB.boxes] at h) (by simp [AB.boxes]) (λb h=>by simp [AB.boxes] at h) ?_,?_⟩
  ·exact ⟨⟨dC,rfl⟩,by simp,rfl⟩
  ·exact ⟨_,rfl,by simp [bj,ca]⟩
 ·refine ⟨_,.arr 2,_,ca c.E0 2 (some g),rfl,⟨rfl,rfl⟩,hs.extend hc D8 (.row 22 1 (lQ (cj l)) false) (some g) (λb h=>by cases h;exact hg) (λb h=>by simp [AB.boxes] at h) (by simp [AB.boxes]) (λb h=>by simp [AB.boxes] at h) ?_,?_⟩
  ·simp only [BR];refine ⟨⟨dC,rfl⟩,by simp [lQ],afY,cur,hhg,ck,oM,afZ,?_⟩;rw [Jm,af0];have hle:=ig (c:=c) (E:=c.E0) (L:=[.cells [.d (.sl 1 (nums l))],.cells [.k 16]]) D8 (.row 22 1 (lQ (cj l)) false) (some g) hs.bl (λb h=>by cases h;exact hg) (λb h=>by simp [AB.boxes] at h);refine cR.mono hle.rd ?_;have nw:l=[]->cR (aj c.M0 c.E0 [.cells [.d (.sl 1 (nums l))],.cells [.k 16]] c.w0).rd (lQ (cj l)).flatten (List.map (Dd (Value.slice a l.length cap)) (List.range (qV l.length))):=by
    rintro rfl;simp [cj,qV,lQ,cR,Cs]
   cases a with
   | none =>
     have:=tH rfl;exact nw (oy oM)
   | some a =>
     obtain ⟨gK,CV,XO⟩:=afX a rfl;rcases gK with h|h
     ·exact nw (by simpa [nums] using h)
     ·obtain ⟨b,off,sp⟩:=a;simp only at h;subst h;exact Jl (cap:=cap) hl US (λo' c' h1 h2=>by
       have h3:=Aq _ _ _ _ ⟨b,off,none⟩ 1 cap o' rfl oM (CV oM);rw [xh] at h3;exact Sg (a:=⟨b,off+o',none⟩) h3 oM) XO (List.range (qV l.length)) λk hk=>List.mem_range.1 hk
  ·exact ⟨_,rfl,by
    simp only [bj,ca];exact ⟨afY,cur,by rw [Jm],hhg,ck⟩⟩
end Go.Proofs.YtolkmjfkkkiboaaGreat
namespace Go.Proofs.YtolkmjfkkkiboaaGreat
open Go.Ab Go.RowKit Go.MapKept Tryz
attribute [local irreducible] ay AW cw eA eo bL
structure bb where
 round:Int
 af:Int
 ae:Int
deriving DecidableEq
def bb.cs (v:bb):List DV:=[.j v.round,.j v.af,.j v.ae]
def ax (l:List bb):List (List DV):=l.map bb.cs
theorem aV (l:List bb):(ax l).length=l.length:=tg ..
structure Tx where
 oh:Int
 seq:Int
 key:ByteArray
 val:ByteArray
def Tx.cs (t:Tx):List DV:=[.j t.oh,.j t.seq,.str t.key,.str t.val]
def dr (l:List Tx):List (List DV):=l.map Tx.cs
structure aW where
 kind:Int
 src:Int
 dst:Int
 ae:Int
 ba:Int
 bn:Int
 dX:List Tx
 head:Cert
 cert:Cert
 aT:List Int
def aW.cs (m:aW):List DV:=[.j m.kind,.j m.src,.j m.dst,.j m.ae,.j m.ba,.j m.bn,.sl 4 (dr m.dX),.j m.head.af,.j m.head.round,.sl 1 (nums m.head.aE),.sl 1 (nums m.head.ao),.j m.cert.af,.j m.cert.round,.sl 1 (nums m.cert.aE),.sl 1 (nums m.cert.ao),.j m.cert.ae,.sl 1 (nums m.cert.sigs),.sl 1 (nums m.aT)]
def aW.av (m:aW):AV := .agg (m.cs.map AV.d)
def bZ (l:List aW):List (List DV):=l.map aW.cs
theorem jT (l:List aW):(bZ l).length=l.length:=tg ..
structure Prim where
 id:Int
 nodes:Int
 round:Int
 iq:Int
 said:Int
 aK:Cert
 dD:Int
 aL:List Int
 aA:List bb
 aq:Dag
 late:List Cert
def Prim.cs (p:Prim):List DV:=[.j p.id,.j p.nodes,.j p.round,.j p.iq,.j p.said,.j p.aK.af,.j p.aK.round,.sl 1 (nums p.aK.aE),.sl 1 (nums p.aK.ao),.j p.dD,.sl 1 (nums p.aL),.sl 3 (ax p.aA),.j p.aq.nodes,.j p.aq.low,.sl 6 (ah p.aq.aa),.sl 6 (ah p.late)]
def Prim.av (p:Prim):AV := .agg (p.cs.map AV.d)
def Prim.st (p:Prim) (out:List aW):List AB:=[.cells (p.cs.map AV.d++[.arr 1]),.row 49 18 (bZ out) false]
def Prim.st1 (p:Prim) (out:List aW):List AB:=[.cells (p.cs.map AV.d++[.arr 2]),.dead,.row 49 18 (bZ out) false]
def kb:Cert:=⟨0,0,[],[],0,[]⟩
def aW.told (m:aW) (p:Prim) (to:Int):aW:={ m with src:=p.id,dst:=to }
theorem yf (p:Prim) (out:List aW) (ho:out.length<=1000000000) (to:Int) (m:aW) (h1:m.head.aJ) (h2:m.cert.aJ):zA 179 [.ptr 0 0,.k to,m.av] (p.st out) (pQ (.tup []) (p.st1 (out++[m.told p to]))):=by
 have zy:=jT out;refine gG func179 ntmps179 ?_;refine cP OD ?_;refine aQ (Me m.head h1) ?_;refine aQ (m7 m.cert h2) ?_;refine cP OE ?_;refine ⟨by simp;omega,?_⟩;refine rdv ?_;refine ⟨rfl,?_⟩;rw [Prim.st1,show bZ (out++[m.told p to])=bZ out++[(m.told p to).cs] by simp [bZ]];rfl
theorem Jn (x y:Int):zA 242 [.k x,.k y] [] (pQ (.k (j_ x y)) []):=by
 refine dB func242 ntmps242 ?_;refine aQ (ya x) ?_;refine aQ (ya y) ?_;repeat' (apply tw<;>intro _)
 all_goals refine ⟨?_,rfl⟩
 ·rename_i h;rw [j_,bp h];rfl
 ·rename_i h h2;rw [j_,aR h,bp h2];rfl
 ·rename_i h h2;rw [j_,aR h,aR h2];rfl
theorem BN (c:Cert) (d:Int):zA 241 [c.av,.k d] [] (pQ (.k (j_ c.ae d)) []):=by
 refine gG func241 ntmps241 ?_;refine (Jn c.ae d).mono ?_;rintro _ _ ⟨rfl,rfl⟩
 conv=>whnf
 exact ⟨rfl,rfl⟩
def ct (l:List Cert):Prop:=l.Pairwise λx y=>x.ae<y.ae
def bA (l:List Cert) (d:Int):Nat:=(l.filter λc=>decide (c.ae<d)).length
def fI (l:List Cert) (d:Int):Bool:=l.any λc=>c.ae == d
theorem wq (l:List Cert) (d:Int):bA l d<=l.length:=mv ..
theorem kJ {d:Int}:∀ {l:List Cert} {m:Nat} {c:Cert},ct l->l[m]? = some c->(c.ae<d↔m<bA l d)
 | [],m,c,_,h=>by simp at h
 | x :: t,m,c,hs,h=>by
   have bP:=Sb.1 hs;by_cases hx:x.ae<d
   ·have hp:bA (x :: t) d=bA t d+1:=by simp [bA,hx]
    cases m with
    | zero =>
      simp only [KF,ke] at h;subst h;rw [hp];simp [hx]
    | succ m =>
      rw [ue] at h;rw [kJ bP.2 h,hp];omega
   ·have bK:∀ y∈t,¬y.ae<d:=λy hy=>by have:=bP.1 y hy;omega
    have hp:bA (x :: t) d=0:=by
     simp only [bA,zdK,Nr];intro y hy;rcases jy.1 hy with rfl|hy
     ·simpa using hx
     ·simpa using bK y hy
    rw [hp];constructor
    ·intro hc;rcases jy.1 (fU h) with rfl|hy
     ·exact absurd hc hx
     ·exact absurd hc (bK c hy)
    ·intro hc;omega
theorem Ek {l:List Cert} {d:Int} (hs:ct l):fI l d=((l[bA l d]?).elim false λc=>c.ae == d):=by
 rw [zeC];unfold fI;rw [zeN];constructor
 ·rintro ⟨c,hc,hd⟩;obtain ⟨m,hm⟩:=Ds hc;have Z3:c.ae=d:=by simpa using hd
  have h1:¬m<bA l d:=λh=>by have:=(kJ hs hm).2 h;omega
  have h2:m=bA l d:=by
   rcases qZ (bA l d) m with h|h
   ·exfalso;have zy:=(dW.1 hm).1;obtain ⟨x,hx⟩:∃ x,l[bA l d]? = some x:=⟨_,ff oM⟩;have bB:x.ae<c.ae:=by
     have:=CL.1 hs (bA l d) m oM zy h;rw [ff oM] at hx hm
     cases hx;cases hm;exact this
    have:=(kJ (d:=d) hs hx).1 oM;omega
   ·omega
  rw [<-h2,hm];exact hd
 ·intro h
  cases hx:l[bA l d]? with
  | none=>rw [hx] at h;cases h
  | some c=>rw [hx] at h;exact ⟨c,fU hx,h⟩
theorem UT {x y:Int}:j_ x y<0↔x<y:=by unfold j_;split<;>(try split)<;>omega
theorem Qm {x y:Int}:j_ x y=0↔x=y:=by unfold j_;split<;>(try split)<;>omega
theorem Jo (l:List Cert) (d:Int) (hl:aU l) (hs:ct l):zA 240 [.d (.sl 6 (ah l)),.k d,.fn 241 []] [] (pQ (.tup [.k (bA l d),.d (.bool (fI l d))]) []):=by
 have bR:=ak l;unfold aU at hl;refine dB func240 ntmps240 ?_;refine aH aF bf aG (σ:=Nat×Nat) (λs=>([(0,.d (.sl 6 (ah l))),(1,.k d),(2,.fn 241 []),(8,.k l.length),(9,.k s.1),(10,.k s.2)],[])) (λs=>s.1<=bA l d/\bA l d<=s.2/\s.2<=l.length) (λs=>s.2 - s.1) [0,1,2,8,9,10] ?_ ?_
 ·conv=>whnf
  exact ⟨(0,l.length),by rw [bR];rfl,rfl,br _,wq l d,eQ _⟩
 ·rintro ⟨i,j⟩ ⟨h1,h2,h3⟩;simp only at h1 h2 h3;refine cm ?_;repeat' (apply tw<;>intro _)
  ·rename_i ru;intro z hz
   conv=>whnf
   refine ⟨dC,?_⟩;intro z1 pB
   conv=>whnf
   intro z2 oA;have hh:=half oM oM hz pB oA;subst hh;clear hz pB oA;obtain ⟨h,hh⟩:∃ h,(i+j) / 2=h:=⟨_,rfl⟩;rw [hh];obtain ⟨c,hc⟩:=eH l h
   conv=>whnf
   refine ⟨oM,c.cs,aB hc,?_⟩;refine cm ?_;refine (BN c d).mono ?_;rintro _ _ ⟨rfl,rfl⟩;have hp:=kJ (d:=d) hs hc;rw [<-UT] at hp;refine cm ?_;repeat' (apply tw<;>intro _)
   ·rename_i hn;exact ⟨(h+1,j),rfl,rfl,⟨by have:=hp.1 hn;show h+1<=_;omega,h2,h3⟩,by show j - (h+1)<j - i;omega⟩
   ·rename_i hn;exact ⟨(i,h),rfl,rfl,⟨h1,by show _<=h;rcases qZ h (bA l d) with h4|h4;exact absurd (hp.2 h4) hn;exact h4,by show h<=_;omega⟩,by show h - i<j - i;omega⟩
  ·have ru:¬(i:Int)<j:=aM;have bB:(i:Int)<l.length:=aM;obtain rfl:i=bA l d:=oM;obtain ⟨c,hc⟩:∃ c,l[bA l d]? = some c:=⟨_,ff oM⟩;rw [Ek hs];refine ⟨oM,c.cs,aB hc,?_⟩;refine cm ?_;refine (BN c d).mono ?_;rintro _ _ ⟨rfl,rfl⟩
   conv=>whnf
   refine ⟨?_,rfl⟩;have e:((l[bA l d]?).elim false λc=>c.ae == d)=(j_ c.ae d == 0):=by
    rw [hc,zeC,xd,Qm];simp
   rw [e]
  ·have ru:¬(i:Int)<j:=aM;have bB:¬(i:Int)<l.length:=aM;obtain rfl:i=bA l d:=oM;rw [Ek hs,Ns oM];exact ⟨rfl,rfl⟩
def Prim.sj (p:Prim) (j:Bool) (out:List aW):List AB:=if j then p.st1 out else p.st out
theorem yg (p:Prim) (j:Bool) (out:List aW) (hl:aU p.late) (hs:ct p.late) (d:Int):zA 206 [.ptr 0 0,.k d] (p.st out) (pQ (.tup [.k (bA p.late d),.d (.bool (fI p.late d))]) (p.st out)):=by
 refine y0 func206 ntmps206 ?_;refine qR (Jo p.late d hl hs) ?_;exact ⟨rfl,rfl⟩
def bU (late:List Cert) (l:List Int):List Int:=l.filter λx => !fI late x
theorem m9 (p:Prim) (out:List aW) (hl:aU p.late) (hs:ct p.late) (l:List Int) (eM:l.length<=1000000):zA 203 [.ptr 0 0,.d (.sl 1 (nums l))] (p.st out) (pQ (.d (.sl 1 (nums (bU p.late l)))) (p.st out)):=by
 have Jm:=nums_length l;have vE:=yg p false out hl hs;refine y0 func203 ntmps203 ?_;refine aH aF bf aG (σ:=Nat) (λj=>([(0,.ptr 0 0),(9,.d (.sl 1 (nums l))),(10,.k l.length),(11,.k j),(4,.arr 2)],p.st out++[.row 3 1 (nums (bU p.late (l.take j))) false])) (λj=>j<=l.length) (λj=>l.length - j) [0,9,10,11,4] ?_ ?_
 ·conv=>whnf
  exact ⟨0,by rw [Jm];rfl,rfl,br _⟩
 ·intro j hj;have KM:(nums (bU p.late (l.take j))).length<=l.length:=by rw [nums_length];exact fS (mv ..) (CB ..)
  refine cm ?_;repeat' (apply tw<;>intro _)
  ·rename_i dM;refine eG l j λx hx=>?_;refine ⟨oM,[.j x],bD hx,?_⟩
   conv=>whnf
   refine (vE x).mono ?_;rintro _ _ ⟨rfl,rfl⟩;have dq:∀ b,fI p.late x=b->bU p.late (l.take (j+1))=bU p.late (l.take j)++(if b then [] else [x]):=by
    intro b hb;unfold bU;rw [iu,hx,CC]
    cases b<;>simp [Ff,hb]
   obtain ⟨b,hb⟩:∃ b,fI p.late x=b:=⟨_,rfl⟩;rw [hb];replace dq:=dq b hb
   cases b with
   | true =>
     refine cm ?_;refine ⟨j+1,rfl,?_,oM,oM⟩;rw [dq];simp;rfl
   | false =>
     refine cm ?_;refine ⟨by simp;omega,?_⟩;refine cm ?_;refine ⟨j+1,rfl,?_,oM,oM⟩;rw [dq,<-db];rfl
  ·rename_i dM;have:l.take j=l:=gx oM;rw [this];exact ⟨rfl,rfl⟩
theorem UU (l:List Int):zA 236 [.d (.sl 1 (nums l)),.k 16] [] (pQ (.fn 257 [.ptr 0 0,.ptr 1 0]) [.cells [.d (.sl 1 (nums l))],.cells [.k 16]]):=by
 refine axz func236 ntmps236 ?_;exact ⟨rfl,rfl⟩
theorem Gm (l:List Int) (hl:l.length<=1000000):zA 235 [.fn 257 [.ptr 0 0,.ptr 1 0]] [.cells [.d (.sl 1 (nums l))],.cells [.k 16]] (pQ (.d (.sl 1 (lQ (cj l)))) [.cells [.d (.sl 1 (nums l))],.cells [.k 16]]):=by
 refine bT (Mj l hl) ?_;rintro _ _ ⟨rfl,rfl⟩
 conv=>whnf
 exact ⟨rfl,rfl⟩
def o7 (p:Prim) (to kind:Int) (l:List Int):aW:=⟨kind,p.id,to,0,0,0,[],kb,kb,l⟩
def jq (p:Prim) (to kind:Int) (l:List Int):List aW:=(cj l).map (o7 p to kind)
theorem d_ (l:List Int):(cj l).length=qV l.length:=by simp [cj]
theorem nN {l:List Int} (hl:l.length<=1000000):∀ x∈cj l,x.length<=16:=by
 intro x hx;obtain ⟨k,_,rfl⟩:=px.1 hx;exact ze7 ..
theorem Jp {l:List (List Int)} {k:Nat} {a:List Int} (h:l[k]? = some a):(lQ l)[k]? = some [.sl 1 (nums a)]:=by simp [lQ,h]
theorem sR (l:List Int) (hl:l.length<=1099511627776):zA 143 [.d (.sl 1 (nums l))] [] (pQ (.d (.sl 1 (nums l))) []):=by
 refine bT (o5 l hl) ?_;rintro _ _ ⟨rfl,rfl⟩
 conv=>whnf
 exact ⟨rfl,rfl⟩
theorem fJ:kb.aJ:=⟨br _,br _,br _⟩
theorem y6 (p:Prim) (out:List aW) (to kind:Int) {l:List (List Int)} {k:Nat} {x:List Int} (hx:l[k]? = some x):out++(l.take k).map (o7 p to kind)++[(⟨kind,0,0,0,0,0,[],kb,kb,x⟩:aW).told p to]=out++(l.take (k+1)).map (o7 p to kind):=by
 rw [iu,hx];simp [o7,aW.told]
def UW (p:Prim) (out:List aW) (to kind:Int) (l:List Int) (j:Bool) (k:Nat):AF×List AB:=([(0,.ptr 0 0),(1,.k to),(2,.k kind),(12,.d (.sl 1 (lQ (cj l)))),(13,.d (.j (cj l).length)),(14,.k k)],p.sj j (out++((cj l).take k).map (o7 p to kind)))
theorem nO (p:Prim) (out:List aW) (ho:out.length<=100000000) (to kind:Int) (l:List Int) (hl:l.length<=1000000):zA 202 [.ptr 0 0,.k to,.k kind,.d (.sl 1 (nums l))] (p.st out) (λav L=>av = .tup []/\∃ j,L=p.sj j (out++jq p to kind l)):=by
 have bR:=d_ l;have Jm:=wo (cj l);unfold qV at bR;refine y0 func202 ntmps202 ?_;refine qR (UU l) ?_;refine qR (Gm l hl) ?_;refine dw aF bf aG (σ:=Bool) (ρ:=Nat) (UW p out to kind l) (λj k=>k<=(cj l).length) (λj k=>(cj l).length - k) [0,1,2,12,13,14] ?_ ?_
 ·conv=>whnf
  exact ⟨false,0,by rw [Jm];rfl,by simp only [UW,zeO,zfK,gR];rfl,br _⟩
 ·rintro j k hk
  cases j with
  | false =>
    refine cm ?_;repeat' (apply tw<;>intro _)
    ·refine nu (⟨_,ff oM⟩:∃ x,(cj l)[k]? = some x) λx hx=>?_;have hxt:=nN hl x (fU hx);have lJ:=yf p (out++((cj l).take k).map (o7 p to kind)) (by simp;omega) to (⟨kind,0,0,0,0,0,[],kb,kb,x⟩:aW) fJ fJ;rw [y6 p out to kind hx] at lJ;refine ⟨oM,[.sl 1 (nums x)],Jp hx,?_⟩;refine cm ?_;refine qR (sR x oM) ?_;refine (bz lJ (.cons (.refl _) (.cons (.refl _) (.cons (.agg ?_) .nil)))).mono ?_
     ·repeat (first|exact .nil|refine .cons (.refl _) ?_|refine .cons (.nils _ dC) ?_)
     ·rintro _ _ ⟨rfl,rfl⟩;refine cm ?_;exact ⟨true,k+1,rfl,rfl,oM,oM⟩
    ·rename_i yd;have:k=(cj l).length:=oM;subst this;rw [lD];exact ⟨rfl,false,rfl⟩
  | true =>
    refine cm ?_;repeat' (apply tw<;>intro _)
    ·refine nu (⟨_,ff oM⟩:∃ x,(cj l)[k]? = some x) λx hx=>?_;have hxt:=nN hl x (fU hx);have lJ:=yf p (out++((cj l).take k).map (o7 p to kind)) (by simp;omega) to (⟨kind,0,0,0,0,0,[],kb,kb,x⟩:aW) fJ fJ;rw [y6 p out to kind hx] at lJ;refine ⟨oM,[.sl 1 (nums x)],Jp hx,?_⟩;refine cm ?_;refine qR (sR x oM) ?_;refine (bz lJ (.cons (.refl _) (.cons (.refl _) (.cons (.agg ?_) .nil)))).mono ?_
     ·repeat (first|exact .nil|refine .cons (.refl _) ?_|refine .cons (.nils _ dC) ?_)
     ·rintro _ _ ⟨rfl,rfl⟩;refine cm ?_;exact ⟨true,k+1,rfl,rfl,oM,oM⟩
    ·rename_i yd;have:k=(cj l).length:=oM;subst this;rw [lD];exact ⟨rfl,true,rfl⟩
def UX (p:Prim) (not:List Int) (k:Nat):List Int:=((List.range k).map λi:Nat=>(i:Int)+1).filter λt=>decide (t≠p.id/\t∉not)
def cM (p:Prim) (m:aW) (not:List Int) (k:Nat):List aW:=(UX p not k).map (m.told p)
theorem m_ (p:Prim) (m:aW) (not:List Int) (k:Nat):cM p m not (k+1)=cM p m not k++(if (k:Int)+1≠p.id/\(k:Int)+1∉not then [m.told p ((k:Int)+1)] else []):=by
 unfold cM UX;rw [zfE,RH,CC,RH];congr 1;by_cases h:(k:Int)+1≠p.id/\(k:Int)+1∉not
 ·simp [h]
 ·rw [aR h];simp only [Dv,zfK,Ff,aP h];simp
theorem ej (p:Prim) (m:aW) (not:List Int) (k:Nat):(cM p m not k).length<=k:=by
 unfold cM UX;rw [tg];exact fS (mv ..) (by simp)
def teB (p:Prim) (out:List aW) (m:aW) (j:Bool):List AB:=if j then [.cells (p.cs.map AV.d++[.arr 3]),.dead,.cells (m.cs.map AV.d),.row 49 18 (bZ out) false] else [.cells (p.cs.map AV.d++[.arr 1]),.row 49 18 (bZ out) false,.cells (m.cs.map AV.d)]
def Mk (p:Prim) (out:List aW) (m:aW) (not:List Int) (s:Bool×Nat):AF×List AB:=([(0,.ptr 0 0),(2,.d (.sl 1 (nums not))),(4,.ptr 2 0),(6,.k ((s.2:Int)+1))],teB p (out++cM p m not s.2) m s.1)
theorem wu (p:Prim) (hn:0<=p.nodes/\p.nodes<=16) (out:List aW) (ho:out.length<=100000000) (m:aW) (h1:m.head.aJ) (h2:m.cert.aJ) (not:List Int) (yh:aU not):zA 145 [.ptr 0 0,m.av,.d (.sl 1 (nums not))] (p.st out) (λav L=>av = .tup []/\∃ j,L=p.sj j (out++cM p m not p.nodes.toNat)):=by
 have Jm:=nums_length not;refine dB func145 ntmps145 ?_;refine mU aF bf aG (σ:=Bool×Nat) (Mk p out m not) (λk s=>k=0/\s.2<=p.nodes.toNat) (λ_ s=>p.nodes.toNat - s.2) ?_ ?_
 ·rintro k rest hk ⟨j,q⟩ ⟨rfl,hq⟩;have e:=Hl (show some _=some rest from hk);subst e;clear hk;replace hq:q<=p.nodes.toNat:=hq;have Ml:=ej p m not q;have j9:=m_ p m not q
  cases j with
  | false =>
    refine cm ?_;repeat' (apply tw<;>intro _)
    ·have h:p.nodes<(q:Int)+1:=aM;obtain rfl:q=p.nodes.toNat:=oM;exact ⟨rfl,false,rfl⟩
    ·have ef:(q:Int)+1≠p.id:=aM;have hle:¬p.nodes<(q:Int)+1:=aM;refine (gX not yh ((q:Int)+1)).mono ?_;rintro _ _ ⟨rfl,rfl⟩;by_cases hm:(q:Int)+1∈not
     ·rw [cz hm];rw [aR (λh=>h.2 hm),gR] at j9;refine cm ?_;refine cV [0,2,4,6] ?_
      conv=>whnf
      exact ⟨(false,q+1),rfl,by simp only [Mk];rw [j9];rfl,⟨rfl,by show q+1<=_;omega⟩,by show _ - (q+1)<_ - q;omega⟩
     ·rw [aP hm];rw [bp ⟨ef,hm⟩] at j9;have lJ:=yf p (out++cM p m not q) (by rw [iQ];omega) ((q:Int)+1) m h1 h2;rw [uf,<-j9] at lJ;refine cm ?_;refine qR lJ ?_;refine cV [0,2,4,6] ?_
      conv=>whnf
      exact ⟨(true,q+1),rfl,rfl,⟨rfl,by show q+1<=_;omega⟩,by show _ - (q+1)<_ - q;omega⟩
    ·have ef:(q:Int)+1=p.id:=aM;have hle:¬p.nodes<(q:Int)+1:=aM;rw [aR (λh=>h.1 ef),gR] at j9;refine cV [0,2,4,6] ?_
     conv=>whnf
     exact ⟨(false,q+1),rfl,by simp only [Mk];rw [j9];rfl,⟨rfl,by show q+1<=_;omega⟩,by show _ - (q+1)<_ - q;omega⟩
  | true =>
    refine cm ?_;repeat' (apply tw<;>intro _)
    ·have h:p.nodes<(q:Int)+1:=aM;obtain rfl:q=p.nodes.toNat:=oM;exact ⟨rfl,true,rfl⟩
    ·have ef:(q:Int)+1≠p.id:=aM;have hle:¬p.nodes<(q:Int)+1:=aM;refine (gX not yh ((q:Int)+1)).mono ?_;rintro _ _ ⟨rfl,rfl⟩;by_cases hm:(q:Int)+1∈not
     ·rw [cz hm];rw [aR (λh=>h.2 hm),gR] at j9;refine cm ?_;refine cV [0,2,4,6] ?_
      conv=>whnf
      exact ⟨(true,q+1),rfl,by simp only [Mk];rw [j9];rfl,⟨rfl,by show q+1<=_;omega⟩,by show _ - (q+1)<_ - q;omega⟩
     ·rw [aP hm];rw [bp ⟨ef,hm⟩] at j9;have lJ:=yf p (out++cM p m not q) (by rw [iQ];omega) ((q:Int)+1) m h1 h2;rw [uf,<-j9] at lJ;refine cm ?_;refine qR lJ ?_;refine cV [0,2,4,6] ?_
      conv=>whnf
      exact ⟨(true,q+1),rfl,rfl,⟨rfl,by show q+1<=_;omega⟩,by show _ - (q+1)<_ - q;omega⟩
    ·have ef:(q:Int)+1=p.id:=aM;have hle:¬p.nodes<(q:Int)+1:=aM;rw [aR (λh=>h.1 ef),gR] at j9;refine cV [0,2,4,6] ?_
     conv=>whnf
     exact ⟨(true,q+1),rfl,by simp only [Mk];rw [j9];rfl,⟨rfl,by show q+1<=_;omega⟩,by show _ - (q+1)<_ - q;omega⟩
 ·intro pass
  conv=>whnf
  refine fq (σ:=Unit) (λ_=>Mk p out m not (false,0)) (λ_=>True) [0,2,4,6] ?_ ?_
  ·conv=>whnf
   exact ⟨(),rfl,by rw [Mk,show cM p m not (false,0).2=[] from rfl,gR];rfl,trivial⟩
  ·intro _ _;exact pass 0 _ rfl (false,0) ⟨rfl,br _⟩
theorem acO {l:List Cert} {x:Int} (h:(l.any λy=>y.ae == x)=false):∀ y∈l,y.ae≠x:=by
 intro y hy e;rw [zeZ] at h;exact h y hy (by simp [e])
theorem YA {d:Dag} {c:Cert} (h:cJ d c=0):d.low<c.round/\y3 d.aa c.round c.af=none/\(∀ y∈d.aa,y.ae≠c.ae)/\bm d c=[]:=by
 unfold cJ at h;split at h
 ·cases h
 ·rename_i h1;split at h
  ·split at h<;>cases h
  ·rename_i h2;split at h
   ·cases h
   ·rename_i h3;split at h
    ·rename_i h4;exact ⟨oM,h2,acO (by simpa using h3),h4⟩
    ·cases h
theorem acP {l:List Cert} {r a:Int} (h:y3 l r a=none):∀ y∈l,¬(y.round=r/\y.af=a):=by
 intro y hy e;unfold y3 at h;rw [ZH] at h;exact h y hy (by simpa using e)
theorem before_total {y:Cert} {r a:Int} (h:¬(y.round=r/\y.af=a)):y.before r a=false->(r<y.round∨r=y.round/\a<y.af):=by
 intro h1;have:¬(y.round<r∨y.round=r/\y.af<a):=λh2=>by rw [bh.2 h2] at h1;cases h1
 omega
theorem Jq {l:List Cert} (hs:dJ l) {r a:Int}:∀ y∈l.take (pos l r a),y.before r a=true:=by
 intro y hy;obtain ⟨m,hm⟩:=Ds hy;rw [nX] at hm;split at hm
 ·rename_i h;exact (mg hs hm).2 h
 ·cases hm
theorem Mm {l:List Cert} (hs:dJ l) {r a:Int}:∀ y∈l.drop (pos l r a),y.before r a=false:=by
 intro y hy;obtain ⟨m,hm⟩:=Ds hy;rw [Dt] at hm
 cases hb:y.before r a with
 | false=>rfl
 | true=>have:=(mg hs hm).1 hb;omega
theorem o8 {d:Dag} {c y:Cert}:y∈(ye d c).aa↔y=c∨y∈d.aa:=by
 have e:=KG (pos d.aa c.round c.af) d.aa;constructor
 ·intro h;rcases gA.1 h with h|h
  ·exact .inr (Fc h)
  ·rcases jy.1 h with h|h
   ·exact .inl h
   ·exact .inr (G5 h)
 ·rintro (h|h)
  ·subst h;exact RE _ (List.mem_cons_self ..)
  ·rw [<-e] at h;rcases gA.1 h with h|h
   ·exact R_ _ h
   ·exact RE _ (xg _ h)
theorem Jr (d:Dag) (c:Cert):(ye d c).aa.length=d.aa.length+1:=by
 have:=uI d.aa c.round c.af;simp [ye];omega
theorem Qn (d:Dag) (c:Cert):(ye d c).aa.Perm (c :: d.aa):=by
 have e:=KG (pos d.aa c.round c.af) d.aa;exact List.perm_middle.trans (by rw [e])
theorem Js {d:Dag} (hs:dJ d.aa) {c:Cert} (ij:y3 d.aa c.round c.af=none):dJ (ye d c).aa:=by
 have e:=KG (pos d.aa c.round c.af) d.aa;have bP:=hs;rw [<-e] at bP;obtain ⟨h1,h2,h3⟩:=Hi.1 bP;refine Hi.2 ⟨h1,Sb.2 ⟨λy hy=>?_,h2⟩,λx hx y hy=>?_⟩
 ·have:=before_total (acP ij y (G5 hy)) (Mm hs y hy);exact bh.2 oM
 ·rcases jy.1 hy with rfl|hy
  ·exact Jq hs x hx
  ·exact h3 x hx y hy
theorem Mn {d:Dag} (h:Valid d) {c:Cert} (hc:bM d.nodes c) (hp:cJ d c=0) (hl:d.aa.length<65536):Valid (ye d c):=by
 obtain ⟨h1,h2,h3,h4⟩:=YA hp;have hlen:=Jr d c;refine ⟨h.nodes,h.low,oM,λy hy=>?_,λy hy=>?_,Js h.sorted h2,?_,λy hy hr x hx=>?_⟩
 ·rcases o8.1 hy with rfl|hy
  ·exact hc
  ·exact h.aa y hy
 ·rcases o8.1 hy with rfl|hy
  ·exact h1
  ·exact h.OK y hy
 ·have hp:=(Qn d c).map (·.ae);rw [hp.nodup_iff,Dv,Pw];refine ⟨λhm=>?_,h.dD⟩;obtain ⟨y,hy,e⟩:=px.1 hm;exact h3 y hy e
 ·have TK:∀ z∈d.aa,z∈(ye d c).aa:=λz hz=>o8.2 (.inr hz);rcases o8.1 hy with rfl|hy
  ·have hr':¬y.round<=d.low+1:=by have:y.round>d.low+1:=hr;omega
   rw [bm,aR hr',Nr] at h4;have:=h4 x hx;simp only [G6,Bool.not_eq_false,zeN,xd] at this;obtain ⟨z,hz,e⟩:=this;obtain ⟨pB,oA⟩:=G7.1 hz;exact ⟨z,TK z pB,e,gQ oA⟩
  ·obtain ⟨z,hz,e⟩:=h.here y hy hr x hx;exact ⟨z,TK z hz,e⟩
def af1 (d:Dag) (j:Nat):AF×List AB :=
 ([(1,.ptr 0 0),(3,.map 1),(30,.d (.sl 6 (ah d.aa))),(31,.k d.aa.length),(32,.k j)],[.cells d.cells,.map (qU (fX (d.aa.take j)))])
def YB (d:Dag) (j:Nat) (c:Cert) (m:Nat):AF×List AB :=
 ([(1,.ptr 0 0),(3,.map 1),(5,.ptr 2 0),(30,.d (.sl 6 (ah d.aa))),(31,.k d.aa.length),(32,.k j),(76,.d (.sl 1 (nums c.ao))),(77,.k c.ao.length),(78,.k m)],[.cells d.cells,.map (qU (fX (d.aa.take j))),.cells c.cells])
theorem Qo (d:Dag) (h:Valid d):zA 75 [d.av] [] (pQ (.d (.bool true)) []):=by
 have bR:=ak d.aa;have hn:=gQ h.nodes;have fb:=h.low;have hlen:=h.len;have aav:=h.Yr;refine dB func75 ntmps75 ?_;refine (Ee d.nodes).mono ?_;rintro _ _ ⟨rfl,rfl⟩;rw [h.nodes];refine rdv ?_;repeat' (apply tw<;>intro _)
 ·rename_i h1;omega
 ·rename_i h1 h2;omega
 ·rename_i h1 h2 h3;omega
 ·skip
  refine aH aF bf aG (σ:=Nat) (af1 d) (λj=>j<=d.aa.length) (λj=>d.aa.length - j) [1,3,30,31,32] ?_ ?_
  ·conv=>whnf
   exact ⟨0,by rw [bR];rfl,rfl,br _⟩
  ·intro j hj;refine rdv ?_;repeat' (apply tw<;>intro _)
   ·rename_i dM;have YC:j<d.aa.length:=WC.1 dM;refine nu (⟨_,ff YC⟩:∃ c,d.aa[j]? = some c) λc hc=>?_;have i_:=fU hc;have bw:=h.aa c i_;have qx:=h.gr i_;have bC:=h.OK c i_;have hft:=aav.fit.fit c i_;have WM:=bw.head.round;have fT:=nums_length c.ao;refine ⟨oM,c.cs,aB hc,?_⟩;refine rdv ?_;refine cP Ui ?_;refine (mY c qx d.nodes).mono ?_;rintro _ _ ⟨rfl,rfl⟩;rw [@cz _ (Classical.propDecidable _) bw];refine rdv ?_;repeat' (apply tw<;>intro _)
    ·rename_i h1;exact absurd bC oM
    ·rename_i h1;obtain ⟨q,hq,Qp⟩:=mA c.ae (fX (d.aa.take j)) 0;have Ta:q=none:=by
      rcases Qp with ⟨v,i,hv,_⟩|⟨_,hv⟩
      ·rw [h.fresh hc] at hv;cases hv
      ·exact hv
     subst Ta
     ((with_reducible apply aC);(focus (intro K hK;(conv=>whnf);exact ⟨none,hq,hK⟩));(conv=>whnf))
     refine eF ?_;repeat' (apply tw<;>intro _)
     ·rename_i CF;refine nu (⟨_,ff (oM:j - 1<d.aa.length)⟩:∃ c,d.aa[j - 1]? = some c) λc0 Hc=>?_;have UY:=aav.fit.fit c0 (fU Hc);have ai0:c0.before c.round c.af=true:=by
       have:=CL.1 h.sorted (j - 1) j oM YC oM;rw [ff YC] at hc;rw [ff oM] at Hc;rw [<-Hl hc,<-Hl Hc];exact this
      have hls:decide (c0.round<c.round∨c0.round=c.round/\c0.af<c.af)=true:=ai0
      ((with_reducible apply aC);(focus (intro K hK;(conv=>whnf);exact ⟨oM,c0.cs,(by rw [show ((j:Int) - 1).toNat=j - 1 by omega];exact aB Hc),hK⟩));(conv=>whnf))
      (refine eF ?_)
      refine aQ (jn c0) ?_;refine aQ (jn c) ?_;refine (qe UY.1 UY.2 hft.1 hft.2).mono ?_;rintro _ _ ⟨rfl,rfl⟩;rw [hls];refine rdv ?_;refine aH aF bf aG (σ:=Nat) (YB d j c) (λm=>m<=c.ao.length) (λm=>c.ao.length - m) [1,3,5,30,31,32,76,77,78] ?_ ?_
      ·conv=>whnf
       exact ⟨0,by rw [fT];rfl,rfl,br _⟩
      ·intro m hm;refine rdv ?_;repeat' (apply tw<;>intro _)
       ·rename_i zy;have UR:m<c.ao.length:=WC.1 zy;have YD:=qx.ao;unfold aU at YD;refine nu (⟨_,ff UR⟩:∃ x,c.ao[m]? = some x) λx hx=>?_;refine ⟨oM,[.j x],bD hx,?_⟩;refine rdv ?_;repeat' (apply tw<;>intro _)
        ·rename_i hrl;have RW:=h.parent hc oM (fU hx);refine nu (mA x (fX (d.aa.take j)) 0) λq hq=>?_;have hqs:∃ i,q=some (i,.v (.one (.j (c.round - 1)))):=by
          rcases hq.2 with ⟨v,i,hv,e⟩|⟨hv,_⟩
          ·rw [RW] at hv;cases hv;exact ⟨i,e⟩
          ·rw [RW] at hv;cases hv
         refine nu hqs λi OT=>?_;have El:=hq.1;rw [OT] at El;refine ⟨_,El,?_⟩;refine rdv ?_;repeat' (apply tw<;>intro _)
         ·rename_i ef;exfalso;revert ef;simp
         ·exact ⟨m+1,rfl,rfl,oM,oM⟩
        ·exact ⟨m+1,rfl,rfl,oM,oM⟩
       ·rename_i zy;refine nu (wh (v:=c.round) (h.fresh hc)) λq hq=>?_;refine ⟨q,hq.1,?_⟩;have gd:gg (qU (fX (d.aa.take j))) q (.one (.j c.ae)) (.v (.one (.j c.round)))=qU (fX (d.aa.take (j+1))):=by
         rw [hq.2,iu,hc];simp [fX]
        rw [gd];refine rdv ?_;exact ⟨j+1,rfl,rfl,oM,oM⟩
     ·rename_i CF;refine aH aF bf aG (σ:=Nat) (YB d j c) (λm=>m<=c.ao.length) (λm=>c.ao.length - m) [1,3,5,30,31,32,76,77,78] ?_ ?_
      ·conv=>whnf
       exact ⟨0,by rw [fT];rfl,rfl,br _⟩
      ·intro m hm;refine rdv ?_;repeat' (apply tw<;>intro _)
       ·rename_i zy;have UR:m<c.ao.length:=WC.1 zy;have YD:=qx.ao;unfold aU at YD;refine nu (⟨_,ff UR⟩:∃ x,c.ao[m]? = some x) λx hx=>?_;refine ⟨oM,[.j x],bD hx,?_⟩;refine rdv ?_;repeat' (apply tw<;>intro _)
        ·rename_i hrl;have RW:=h.parent hc oM (fU hx);refine nu (mA x (fX (d.aa.take j)) 0) λq hq=>?_;have hqs:∃ i,q=some (i,.v (.one (.j (c.round - 1)))):=by
          rcases hq.2 with ⟨v,i,hv,e⟩|⟨hv,_⟩
          ·rw [RW] at hv;cases hv;exact ⟨i,e⟩
          ·rw [RW] at hv;cases hv
         refine nu hqs λi OT=>?_;have El:=hq.1;rw [OT] at El;refine ⟨_,El,?_⟩;refine rdv ?_;repeat' (apply tw<;>intro _)
         ·rename_i ef;exfalso;revert ef;simp
         ·exact ⟨m+1,rfl,rfl,oM,oM⟩
        ·exact ⟨m+1,rfl,rfl,oM,oM⟩
       ·rename_i zy;refine nu (wh (v:=c.round) (h.fresh hc)) λq hq=>?_;refine ⟨q,hq.1,?_⟩;have gd:gg (qU (fX (d.aa.take j))) q (.one (.j c.ae)) (.v (.one (.j c.round)))=qU (fX (d.aa.take (j+1))):=by
         rw [hq.2,iu,hc];simp [fX]
        rw [gd];refine rdv ?_;exact ⟨j+1,rfl,rfl,oM,oM⟩
   ·exact ⟨rfl,rfl⟩
end Go.Proofs.YtolkmjfkkkiboaaGreat
