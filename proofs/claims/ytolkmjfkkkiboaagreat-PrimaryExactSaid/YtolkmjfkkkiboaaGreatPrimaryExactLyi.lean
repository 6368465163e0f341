/- PrimaryExact: abstract runs. -/
import Derived.Test.YtolkmjfkkkiboaaGreatPrimaryExactLyf
import Derived.Laws.CopyRow
set_option linter.all false
namespace Go.Ab
open Go.RowKit
theorem aI.Iv {c:Ctx} {E:Nat->Option Nat} {L:List AB} {w:World} (h:aI c E L w) {i e n:Nat} {xs zs:List (List DV)} (hi:L[i]? = some (.row e n xs false))
  (fy:BR (aj c.M0 E L w) w (E i) (.row e n zs false)) :
  aI c (ca E L.length (E i)) (L.set i .dead++[.row e n zs false]) w/\(aj c.M0 E L w).le (aj c.M0 (ca E L.length (E i)) (L.set i .dead++[.row e n zs false]) w):=by
 have abd:i<L.length:=(dW.1 hi).1;have look:∀ j ab,(L.set i .dead++[AB.row e n zs false])[j]? = some ab->(j=L.length/\ab = .row e n zs false)∨(j=i/\ab = .dead)∨(j≠L.length/\j≠i/\L[j]? = some ab):=by
  intro j ab hj;by_cases h1:j=L.length
  ·subst h1;have:(L.set i .dead++[AB.row e n zs false])[L.length]? = some (.row e n zs false):=by
    rw [Ww (by simp)];simp
   rw [this] at hj;cases hj;exact .inl ⟨rfl,rfl⟩
  ·have h2:(L.set i AB.dead)[j]? = some ab:=getElem?_push_lt hj (by simpa using h1);by_cases h3:j=i
   ·subst h3;rw [aD hi] at h2;cases h2;exact .inr (.inl ⟨rfl,rfl⟩)
   ·rw [al h3] at h2;exact .inr (.inr ⟨h1,h3,h2⟩)
 have back:∀ j ab,L[j]? = some ab->j≠i->(L.set i .dead++[AB.row e n zs false])[j]? = some ab:=by
  intro j ab hj cA;have:j<L.length:=(dW.1 hj).1;rw [CK (by simpa using this),al cA];exact hj
 have Hu:(L.set i .dead++[AB.row e n zs false])[i]? = some .dead:=by
  rw [CK (by simpa using abd),aD hi]
 have hE:∀ j ab,L[j]? = some ab->ca E L.length (E i) j=E j:=by
  intro j ab hj;have:j<L.length:=(dW.1 hj).1;simp only [ca];rw [aR oM]
 have Px:ca E L.length (E i) L.length=E i:=by simp [ca]
 have hle:(aj c.M0 E L w).le (aj c.M0 (ca E L.length (E i)) (L.set i .dead++[.row e n zs false]) w):=by
  refine ⟨?_,?_,?_,?_,?_⟩
  rotate_right
  ·rintro j x v ⟨cN,h1,h2⟩;have cA:j≠i:=by
    rintro rfl;rw [hi] at h1;cases h1
    exact h2.elim
   exact ⟨cN,back j cN h1 cA,h2⟩
  ·refine ug rfl (.refl _) ?_;rintro a u h1 h2;refine ⟨h1,?_⟩;rintro (hm|⟨j,cN,hj,he,hm⟩|⟨j,cN,hj,hm⟩)
   ·exact h2 (.inl hm)
   ·rcases look j cN hj with ⟨rfl,rfl⟩|⟨rfl,rfl⟩|⟨n1,n2,j6⟩
    ·rw [Px] at he;refine h2 (.inr (.inl ⟨i,_,hi,he,λhs=>?_⟩))
     cases hs
    ·exact hm.elim
    ·rw [hE j cN j6] at he;exact h2 (.inr (.inl ⟨j,cN,j6,he,hm⟩))
   ·rcases look j cN hj with ⟨rfl,rfl⟩|⟨rfl,rfl⟩|⟨n1,n2,j6⟩
    ·simp [AB.boxes] at hm
    ·simp [AB.boxes] at hm
    ·exact h2 (.inr (.inr ⟨j,cN,j6,hm⟩))
  ·rintro j b ⟨cN,h1,h2,h3⟩;have cA:j≠i:=by rintro rfl;rw [hi] at h1;cases h1;simp [AB.gB] at h2
   exact ⟨cN,back j cN h1 cA,h2,by rw [hE j cN h1];exact h3⟩
  ·rintro j v ⟨cN,h1,h2⟩;by_cases cA:j=i
   ·subst cA;exact ⟨.dead,Hu,kY h2⟩
   ·refine ⟨cN,back j cN h1 cA,?_⟩
    cases cN with
    | cells cs=>simp only [bj] at h2 ⊢;rw [hE j _ h1];exact h2
    | map es=>exact h2
    | cK b cs=>exact h2
    | obj o=>exact h2
    | qJ o n cap=>simp only [bj] at h2 ⊢;rw [hE j _ h1];exact h2
    | dead=>exact h2
    | aN lo n ok=>exact h2.elim
    | row e n xs sh=>simp only [bj] at h2 ⊢;rw [hE j _ h1];exact h2
  ·rintro j x o v ⟨cN,h1,h2⟩;by_cases cA:j=i
   ·subst cA;exact ⟨.dead,Hu,iH h2⟩
   ·refine ⟨cN,back j cN h1 cA,?_⟩
    cases cN with
    | cells cs=>exact h2
    | map es=>exact h2
    | cK b cs=>exact h2
    | obj o=>exact h2
    | qJ o n cap=>exact h2
    | dead=>exact h2
    | aN lo n ok=>exact h2.elim
    | row e n xs sh=>simp only [mF] at h2 ⊢;rw [hE j _ h1];exact h2
 refine ⟨⟨h.os,h.tape,h.output,h.size,h.gS,?_,?_,?_,?_,?_⟩,hle⟩
 ·intro j ab hj;rcases look j ab hj with ⟨rfl,rfl⟩|⟨rfl,rfl⟩|⟨n1,n2,j6⟩
  ·rw [Px];exact BR.mono hle fy (λ_ _ _=>rfl) λ_ _=>rfl
  ·trivial
  ·rw [hE j ab j6];exact BR.mono hle (h.fQ j ab j6) (λ_ _ _=>rfl) λ_ _=>rfl
 ·intro j ab b hj hl he;rcases look j ab hj with ⟨rfl,rfl⟩|⟨rfl,rfl⟩|⟨n1,n2,j6⟩
  ·rw [Px] at he;exact h.low i _ b hi rfl he
  ·cases hl
  ·rw [hE j ab j6] at he;exact h.low j ab b j6 hl he
 ·intro j1 j2 iS fp b h1 h2 l1 l2 e1 e2;rcases look j1 iS h1 with ⟨rfl,rfl⟩|⟨rfl,rfl⟩|⟨n1,n2,pK⟩
  ·rw [Px] at e1;rcases look j2 fp h2 with ⟨rfl,rfl⟩|⟨rfl,rfl⟩|⟨n1,n2,lA⟩
   ·rfl
   ·cases l2
   ·rw [hE j2 fp lA] at e2;exact absurd (h.inj j2 i fp _ b lA hi l2 rfl e2 e1) n2
  ·cases l1
  ·rw [hE j1 iS pK] at e1;rcases look j2 fp h2 with ⟨rfl,rfl⟩|⟨rfl,rfl⟩|⟨m1,m2,lA⟩
   ·rw [Px] at e2;exact absurd (h.inj j1 i iS _ b pK hi l1 rfl e1 e2) n2
   ·cases l2
   ·rw [hE j2 fp lA] at e2;exact h.inj j1 j2 iS fp b pK lA l1 l2 e1 e2
 ·exact h.q_.trans hle
 ·have lW:∀ (j:Nat) (ab:AB),(L.set i .dead++[AB.row e n zs false])[j]? = some ab->∀ b∈ab.boxes,L[j]? = some ab:=by
   intro j ab hj b hb;rcases look j ab hj with ⟨rfl,rfl⟩|⟨rfl,rfl⟩|⟨n1,n2,j6⟩
   ·simp [AB.boxes] at hb
   ·simp [AB.boxes] at hb
   ·exact j6
  refine ⟨λj ab b hj hb=>h.bx.low j ab b (lW j ab hj b hb) hb,?_,?_,λj k ab bQ b hj hk hb kg=>h.bx.dj j k ab bQ b (lW j ab hj b hb) (lW k bQ hk b kg) hb kg⟩
  ·intro j k ab bQ b hj hb hk hl he;have CF:=lW j ab hj b hb;rcases look k bQ hk with ⟨rfl,rfl⟩|⟨rfl,rfl⟩|⟨n1,n2,Fj⟩
   ·rw [Px] at he;exact h.bx.own j i ab _ b CF hb hi rfl he
   ·cases hl
   ·rw [hE k bQ Fj] at he;exact h.bx.own j k ab bQ b CF hb Fj hl he
  ·intro j ab hj;rcases look j ab hj with ⟨rfl,rfl⟩|⟨rfl,rfl⟩|⟨n1,n2,j6⟩
   ·simp [AB.boxes]
   ·simp [AB.boxes]
   ·exact h.bx.nd j ab j6
theorem eI {n:Nat}:∀ (xs:List (List DV)),(∀ cs∈xs,cs.length=n)->∀ k:Nat,(xs.take k).flatten=xs.flatten.take (k * n)
 | [],_,k=>by simp
 | c :: r,hl,0=>by simp
 | c :: r,hl,k+1=>by
   have hc:c.length=n:=hl c (by simp);have:=eI r (λx hx=>hl x (by simp [hx])) k;have e1:(k+1) * n=n+k * n:=by rw [qu,Nu,ZK]
   have e2:c.take (n+k * n)=c:=gx oM;rw [ZG,va,this,va,e1,ze4,hc,e2,zeI]
theorem kS {n:Nat}:∀ (xs:List (List DV)),(∀ cs∈xs,cs.length=n)->∀ k:Nat,(xs.drop k).flatten=xs.flatten.drop (k * n)
 | [],_,k=>by simp
 | c :: r,hl,0=>by simp
 | c :: r,hl,k+1=>by
   have hc:c.length=n:=hl c (by simp);have:=kS r (λx hx=>hl x (by simp [hx])) k;have e1:(k+1) * n=n+k * n:=by rw [qu,Nu,ZK]
   have e2:c.drop (n+k * n)=[]:=zdE oM;rw [zdQ,this,va,e1,ze3,hc,e2,zeI,tC]
theorem aI.abT {c:Ctx} {E:Nat->Option Nat} {L:List AB} {w:World} (h:aI c E L w) {i e n:Nat} {xs zs:List (List DV)} (hi:L[i]? = some (.row e n xs false)) {b:Nat} (hb:E i=some b)
  {cur cur':Array Value} (hh:w.heap[b]? = some (.cells cur e (0,0))) (hs:cur'.size=cur.size) (tk:zs.length * n<=cur.size) (hn:∀ cs∈zs,cs.length=n)
  (hv:cR (aj c.M0 E L w).rd zs.flatten (cur'.toList.take (zs.length * n))) :
  aI c (ca E L.length (some b)) (L.set i .dead++[.row e n zs false]) (w.setRow b cur')/\(aj c.M0 E L w).le (aj c.M0 (ca E L.length (some b)) (L.set i .dead++[.row e n zs false]) (w.setRow b cur')):=by
 have fy:=h.fQ i _ hi;obtain ⟨zw,hl,h3⟩:=fy;rw [hb] at h3;obtain ⟨cap,fx,h4,h5,h6,h7,h8⟩:=h3;rw [hh] at h4;cases h4
 have hlen:(L.set i AB.dead).length=L.length:=by simp
 have DX:=setRow_heap w b cur cur' e (0,0) hh;have gT:zs.length<=cap:=by
  rw [h5] at tk;exact Nat.le_of_mul_le_mul_right tk zw.1
 rcases Nat.le_total zs.length xs.length with hle|hle
 ·have bB:(xs.take zs.length).length=zs.length:=by rw [mw];omega
  obtain ⟨dR,eX⟩:=h.Iv hi (zs:=xs.take zs.length) (by
   rw [hb];refine ⟨zw,λcs ck=>hl cs (Fc ck),cap,cur,hh,h5,oM,h7,?_⟩;have e1:(xs.take zs.length).flatten=xs.flatten.take (zs.length * n):=eI xs hl zs.length;have e2:cur.toList.take (zs.length * n)=(cur.toList.take (xs.length * n)).take (zs.length * n):=by rw [WW,vd (lT _ hle)]
   rw [bB,e1,e2];exact gJ _ h8)
  rw [hb] at dR eX;have Xm:(L.set i AB.dead++[AB.row e n (xs.take zs.length) false])[L.length]? = some (.row e n (xs.take zs.length) false):=by rw [<-hlen];simp
  have xS:ca E L.length (some b) L.length=some b:=by simp [ca]
  obtain ⟨e_,jG⟩:=dR.rewrite Xm xS hh hs (zs:=zs) bB.symm hn (cR.mono eX.rd hv);have HZ:(L.set i AB.dead++[AB.row e n (xs.take zs.length) false]).set L.length (AB.row e n zs false)=L.set i .dead++[.row e n zs false]:=by
   rw [<-hlen,List.set_append_right _ _ (eQ _),zfB];rfl
  rw [HZ] at e_ jG;exact ⟨e_,eX.trans jG⟩
 ·have bB:(zs.take xs.length).length=xs.length:=by rw [mw];omega
  obtain ⟨dR,eX⟩:=h.rewrite hi hb hh hs (zs:=zs.take xs.length) bB (λcs ck=>hn cs (Fc ck)) (by
   have e1:(zs.take xs.length).flatten=zs.flatten.take (xs.length * n):=eI zs hn xs.length;have e2:cur'.toList.take (xs.length * n)=(cur'.toList.take (zs.length * n)).take (xs.length * n):=by rw [WW,vd (lT _ hle)]
   rw [bB,e1,e2];exact gJ _ hv)
  have Xm:=aD (x:=AB.row e n (zs.take xs.length) false) hi;obtain ⟨e_,jG⟩:=dR.Iv Xm (zs:=zs) (by
   rw [hb];exact ⟨zw,hn,cap,cur',DX,by rw [hs];exact h5,gT,h7,cR.mono eX.rd hv⟩)
  rw [List.set_set,List.length_set,hb] at e_ jG;exact ⟨e_,eX.trans jG⟩
theorem aO.xT {w x:World} (h:aO w x) (b:Nat) (hb:w.heap.size<=b) (R:Array Value):aO w (x.setRow b R) :=
 have k:=vk.setRow x b R
 ⟨k.os.trans h.os,k.tape.trans h.tape,k.output.trans h.output,by rw [k.size];exact h.size,λj hj=>by rw [k.block j oM];exact h.block j hj⟩
theorem cd {P:Program} (w:World) (dT sT ty elem:TypeId) (k:Nat) (b o afs aiF:Nat) (a:Addr) (qP xI m:Nat) (us:List Value) {cur:Array Value} {e:TypeId}
  (hu:P.underlying dT=some (.slice elem)) (hs:∀ w,(sizeOf elem).run P w = .ok k w) (hm:Nat.min qP afs=m) (hn:us.length=m * k)
  (gD:∀ j v,us[j]? = some v->w.cell? (a.add j)=some v) (hh:w.heap[b]? = some (.cells cur e (0,0))) (tk:o+us.length<=cur.size) (h1:∀ v∈us,v.oneCell'=true) :
  (Builtin.copy_ #[dT,sT] ty #[.slice (some ⟨b,o,none⟩) afs aiF,.slice (some a) qP xI]).run P w = .ok (goInt m) (w.setRow b (cur.toList.take o++us++cur.toList.drop (o+us.length)).toArray):=by
 subst hm;have hl:=run_loadCells_list (P:=P) w a us gD;have vo:=run_storeCells_at P b o e us 0 cur w hh (by simpa using tk) h1;rw [RJ] at vo;simp [Builtin.copy_,run_underlying hu,Builtin.lenOf,Builtin.firstCells,hs,<-hn,hl,vo]
theorem Bp {α:Type} (A vs:List α) (a N k:Nat) (ha:a<=N) (hN:N+k<=A.length) (hv:vs.length=k) (A1:List α) (h1:A1=A.take (a+k)++(A.take N).drop a++A.drop (a+k+((A.take N).drop a).length)) :
  (A1.take a++vs++A1.drop (a+vs.length)).take (N+k)=(A.take N).take a++vs++(A.take N).drop a/\(A1.take a++vs++A1.drop (a+vs.length)).length=A.length/\A1.length=A.length:=by
 have l1:(A.take (a+k)).length=a+k:=by rw [mw];omega
 have l2:((A.take N).drop a).length=N - a:=by rw [tf,mw];omega
 have l3:(A.take a).length=a:=by rw [mw];omega
 have e1:A1.take a=A.take a:=by
  rw [h1,uf,KW oM,WW,vd oM]
 have e2:A1.drop (a+k)=(A.take N).drop a++A.drop (N+k):=by
  rw [h1,uf,ze3,l1,zfB,RI,zdE oM,tC,l2];congr 2;omega
 have e3:(A.take N).take a=A.take a:=by rw [WW,vd ha]
 rw [hv,e1,e2,e3,<-uf];refine ⟨?_,?_,?_⟩
 ·rw [KW (by simp [l3,hv];omega),gx (by simp [l3,hv];omega)]
 ·simp [l3,hv];omega
 ·rw [h1];simp;omega
theorem xU {α:Type} (R vs us C:List α) (a N k:Nat) (ha:a<=N) (hR:N+k<=R.length) (hv:vs.length=k) (hu:us.length=N - a) (hC:R.take a=C) :
  (((R.take a++vs++R.drop (a+vs.length)).take (a+k))++us++(R.take a++vs++R.drop (a+vs.length)).drop (a+k+us.length)).take (N+k)=C++vs++us /\
  (((R.take a++vs++R.drop (a+vs.length)).take (a+k))++us++(R.take a++vs++R.drop (a+vs.length)).drop (a+k+us.length)).length=R.length/\(R.take a++vs++R.drop (a+vs.length)).length=R.length:=by
 have l3:(R.take a).length=a:=by rw [mw];omega
 have e1:(R.take a++vs++R.drop (a+vs.length)).take (a+k)=R.take a++vs:=by
  rw [KW (by simp [l3,hv]),gx (by simp [l3,hv])]
 rw [e1,<-hC];refine ⟨?_,?_,?_⟩
 ·rw [KW (by simp [l3,hv,hu];omega),gx (by simp [l3,hv,hu];omega)]
 ·simp [l3,hv,hu];omega
 ·simp [l3,hv];omega
theorem rP {P:Program} {tt:TypeId->Option TI} (ht:cp P tt) (hzo:∀ e ei,tt e=some ei->ei.zero.cells.size=ei.size) {t:TypeId} {c:Ctx} (hc:c.wf) {E:Nat->Option Nat} {L:List AB} {w:World} (hs:aI c E L w) {s x:AV} {K:AV->List AB->Prop} (h:pP tt t L s x K) (ty:TypeId)
  {v u:Value} (hv:VR (aj c.M0 E L w) s v) (Aw:VR (aj c.M0 E L w) x u) :
  ∃ r w' E' av L',(Builtin.append_ #[t,t] ty #[v,u]).run P w = .ok r w'/\K av L'/\aI c E' L' w'/\(aj c.M0 E L w).le (aj c.M0 E' L' w')/\VR (aj c.M0 E' L' w') av r:=by
 unfold pP at h;obtain ⟨i,hi,h⟩:=bI h;split at h
 rotate_left
 ·exact h.elim
 rename_i e he;obtain ⟨ei,iw,h⟩:=bI h;have hd:i.desc = .slice e:=by
  revert he
  cases i.desc<;>simp [bY]
 obtain ⟨hu,_⟩:=ht t i hi;rw [hd] at hu
 cases hb:(Nat.beq ei.size 0||Nat.beq ei.bytes 0) with
 | true=>rw [hb] at h;exact h.elim
 | false =>
 rw [hb] at h;simp only [py] at h;have h1:0<ei.size:=by
  rcases Hk ei.size with h0|h0
  ·rw [h0] at hb;simp at hb
  ·exact h0
 have h2:0<ei.bytes:=by
  rcases Hk ei.bytes with h0|h0
  ·rw [h0] at hb;simp at hb
  ·exact h0
 obtain ⟨ys,h3,h4⟩:=HJ hs h1 h Aw;exact yC ht hu iw (hzo e ei iw) h1 h2 hc hs h3 ty hv h4
end Go.Ab
