/- PrimaryExact: abstract runs. -/
import Derived.Test.YtolkmjfkkkiboaaGreatPrimaryExactLywk
set_option linter.all false
namespace Go.Ab
open Go.RowKit
section
variable {P:Program} {tt:TypeId->Option TI} {fo:FuncId->Bool} {n k0:Nat}
theorem uE (ht:cp P tt) (hz:jL tt) (eZ:jx P fo) {c:Ctx} (hc:c.wf) {o:Oper} (hg:o.guard=none) (qQ:∀ x,o.dst=some x->x<c.n) {E:Nat->Option Nat} {F:AF} {L:List AB} {a:Act} {w:World} {K:AV->List AB->Prop}
  (h:mP P tt fo o F L K) (hs:eE c E F L a w) {ops:Array Oper} {r:List Oper} {Q:Exit->Act->World->Prop}
  (hk:∀ av L' E' a' w',K av L'->eE c E' (cu F o.dst av) L' a' w'->wpList P ops Q r a' w'):wpList P ops Q (o :: r) a w :=
 wpList_plain hg λ_ Xs=>vD qQ (sG ht hz eZ hc h hs) λav L' E' a' w' h1 h2=>Xs _ _ (hk av L' E' a' w' h1 h2)
theorem sL {α:Type} {l:List α} {i:Nat} {x:α} (h:l[i]? = some x):l.set i x=l:=by
 obtain ⟨h1,rfl⟩:=dW.1 h;exact List.set_getElem_self h1
theorem jQ (z:Array Value):∀ (q:Nat),(Builtin.zeroCells z q).toList=(List.replicate q z.toList).flatten
 | 0=>by simp [Builtin.zeroCells]
 | q+1=>by
   rw [List.replicate_succ',RG,<-jQ z q];apply List.ext_getElem
   ·simp [Builtin.zeroCells,qu]
   ·intro j h1 h2;have h3:j<(q+1) * z.size:=by simpa [Builtin.zeroCells] using h1
    rw [List.getElem_append];by_cases hj:j<q * z.size
    ·rw [dif_pos (by simpa [Builtin.zeroCells] using hj)];simp [Builtin.zeroCells]
    ·rw [dif_neg (by simpa [Builtin.zeroCells] using hj)];have h4:j - q * z.size<z.size:=by rw [qu] at h3;omega
     have h5:j % z.size=j - q * z.size:=by
      obtain ⟨d,hd⟩:∃ d,j=d+q * z.size:=⟨j - q * z.size,oM⟩;rw [hd,zdA,Nat.add_sub_cancel,zd3 oM]
     simp [Builtin.zeroCells,h5,h4]
theorem LP {α:Type} {r:α->Value->Prop} {xs:List α} {us:List Value} (h:Cs r xs us):∀ (q:Nat),Cs r (List.replicate q xs).flatten (List.replicate q us).flatten
 | 0=>by simp [Cs]
 | q+1=>by
   rw [List.replicate_succ,List.replicate_succ,va,va];exact cf h (LP h q)
theorem Oh {α:Type} {r:α->Value->Prop}:∀ {xs:List α} {us:List Value},Cs r xs us->∀ v∈us,v.oneCell'=true
 | [],us,h,v,hv=>by simp only [Cs] at h;subst h;cases hv
 | x :: xs,us,h,v,hv=>by
   simp only [Cs] at h;obtain ⟨u,dt,rfl,h1,_,h2⟩:=h;rcases jy.1 hv with rfl|hv
   ·exact h1
   ·exact Oh h2 v hv
theorem IU (ht:cp P tt) (hz:jL tt) (eZ:jx P fo) {id:Nat} {ops:Array Oper} {o0 o1 o2 o3:Oper} (abY:ops.toList=[o0,o1,o2,o3])
  {i k e m:Nat} {xs:List (List DV)} {t:TypeId} {F:AF} {L:List AB} {d2:Nat} {x0 x1:Operand} (hL:L[i]? = some (.row e m xs false)) (hk:k<=xs.length)
  (g0:o0.guard=none) (g1:o1.guard=none) (g2:o2.guard=none) (g3:o3.guard=none) (q0:∀ x,o0.dst=some x->x<n) (q1:∀ x,o1.dst=some x->x<n) (q2:o2.dst=some d2) (Oi:d2<n) (q3:o3.dst=none)
  (h0:mP P tt fo o0 F L λv L'=>v = .arr i/\L'=L) (h1:mP P tt fo o1 (cu F o0.dst (.arr i)) L λv L'=>v = .k k/\L'=L)
  (p2:o2.op = .slice t x0 (some x1) none none) (e0:ev (cu (cu F o0.dst (.arr i)) o1.dst (.k k)) x0 = .arr i) (e1:ev (cu (cu F o0.dst (.arr i)) o1.dst (.k k)) x1 = .k k)
  (p3:o3.op = .call { callee := .builtin .clear,args := #[.tmp d2],argTypes := #[t] }) {ti:TI} (IV:tt t=some ti) {ei:TI} (he:ti.desc = .slice e) (iw:tt e=some ei) (hem:ei.size=m) (zd:List DV) (sB:zd.length=m) (hzd:∀ rd,cR rd zd ei.zero.cells.toList)
  {Q:Exit->AF->List AB->Prop} (hQ:Q .normal (cu (cu (cu F o0.dst (.arr i)) o1.dst (.k k)) (some d2) (.d .any)) (L.set i (.row e m (xs.take k++List.replicate (xs.length - k) zd) false))) :
  AW P n k0 (.region id ops false) Q F L:=by
 intro c E a w hc dS _ hs;subst dS;refine wp_region_list ?_;rw [abY];refine uE ht hz eZ hc g0 q0 h0 hs ?_;rintro _ L1 E1 a1 w1 ⟨rfl,hL1⟩ dR;rw [hL1] at dR;refine uE ht hz eZ hc g1 q1 h1 dR ?_;rintro _ L2 E2 a2 w2 ⟨rfl,ZV⟩ e_;rw [ZV] at e_;obtain ⟨jw,_⟩:=ht t ti IV;obtain ⟨RO,info,j1,j2,j3,j4⟩:=ht e ei iw;rw [he] at jw;have hm:info.size=m:=by rw [j3,hem]
 have v0:=e_.ev x0;rw [e0] at v0;simp only [VR] at v0;have v1:=e_.ev x1;rw [e1] at v1;simp only [VR,VD] at v1;obtain ⟨ab,bC,rn⟩:=v0;rw [hL] at bC
 cases bC
 obtain ⟨zw,xw,fy⟩:=e_.h.fQ i _ hL
 -- DE ahA value, and DE rest
 suffices H:∃ r w',(Instr.sliceAt t (a2.eval x0) (some (.j k)) none none).run P w2 = .ok r w2/\(∀ ty,(Builtin.clear_ #[t] ty #[r]).run P w2 = .ok (.tuple #[]) w') /\
   aI c E2 (L.set i (.row e m (xs.take k++List.replicate (xs.length - k) zd) false)) w'/\(aj c.M0 E2 L w2).le (aj c.M0 E2 (L.set i (.row e m (xs.take k++List.replicate (xs.length - k) zd) false)) w') by
  obtain ⟨r,w',r1,r2,r3,r4⟩:=H;refine wpList_plain g2 λK2 hK2=>?_;unfold Oper.wp;rw [show (execOp a2.eval o2).run P w2 = .ok (.value r) w2 by simp [execOp,p2,v1,r1]];refine hK2 _ _ ?_;refine wpList_plain g3 λK3 hK3=>?_;unfold Oper.wp;have PN:(a2.put o2.dst r).eval (.tmp d2)=r:=by
   rw [q2];show Array.getD (a2.tmps.setIfInBounds d2 r) d2 undef=r;have:d2<a2.tmps.size:=by rw [e_.nt];exact Oi
   simp [Array.getD,this]
  rw [show (execOp (a2.put o2.dst r).eval o3).run P w2 = .ok (.value (.tuple #[])) w' by simp [execOp,p3,resolve,invoke,builtin,PN,r2,Result.andThen]];refine hK3 _ _ ?_;rw [q3,q2];refine ⟨E2,_,_,?_,hQ⟩;have Ga:=e_.put (some d2) (.d .any) r (λx hx=>by cases hx;exact Oi) (by simp [VR,VD]);exact ⟨r3,λs=>VR.mono r4 _ _ (Ga.dL s),Ga.nt,Ga.df⟩
 have hlen:(xs.take k++List.replicate (xs.length - k) zd).length=xs.length:=by simp;omega
 cases hE:E2 i with
 | none =>
   rw [hE] at fy;replace fy:xs=[]:=fy;subst fy;simp only [bj,hE] at rn;obtain rfl:k=0:=by simpa using hk
   refine ⟨.slice none 0 0,w2,?_,?_,?_,?_⟩
   ·rw [rn];have hb:=eV (P:=P) (w:=w2) true 0 0 (some (.j ((0:Nat):Int))) none 0 0 oM oM (by simp) oM (.inr ⟨.i64,rfl⟩) (.inl ⟨rfl,rfl⟩);unfold Instr.sliceAt;simp only [Sem.run_bind,run_underlying jw,Result.andThen_ok];unfold Instr.slice;simp only [Sem.run_bind,run_underlying jw,Result.andThen_ok,hb,run_sizeOf j1];rfl
   ·intro ty;simp [Builtin.clear_,run_underlying jw]
   ·rw [show L.set i (AB.row e m (([]:List (List DV)).take 0++List.replicate (([]:List (List DV)).length - 0) zd) false)=L from sL hL];exact e_.h
   ·rw [show L.set i (AB.row e m (([]:List (List DV)).take 0++List.replicate (([]:List (List DV)).length - 0) zd) false)=L from sL hL];exact RC.le.refl _
 | some b =>
   rw [hE] at fy;obtain ⟨aiL,T8,b1,b2,b3,b4,b5⟩:=fy;simp only [bj,hE] at rn;obtain ⟨cap,cur,rn,hh,da⟩:=rn;have hcc:T8=cur:=by rw [b1] at hh;cases hh;rfl
   rw [hcc] at b1 b2 b5;clear hcc T8;have xn:cap=aiL:=zdB zw.1 (da.symm.trans b2);subst xn;have hb:=eV (P:=P) (w:=w2) true xs.length cap (some (.j (k:Int))) none k xs.length oM oM oM b3 (.inr ⟨.i64,rfl⟩) (.inl ⟨rfl,rfl⟩);have n_:(Instr.sliceAt t (a2.eval x0) (some (.j k)) none none).run P w2 = .ok (.slice (if cap=k then some ⟨b,0,none⟩ else (some (⟨b,0,none⟩:Addr)).map (·.add (k * m))) (xs.length - k) (cap - k)) w2:=by
    rw [rn];unfold Instr.sliceAt;simp only [Sem.run_bind,run_underlying jw,Result.andThen_ok];unfold Instr.slice;simp only [Sem.run_bind,run_underlying jw,Result.andThen_ok,hb,run_sizeOf j1,hm];simp
   rcases qZ k xs.length with bB|rl
   ·rw [aR oM] at n_;rw [show (some (⟨b,0,none⟩:Addr)).map (·.add (k * m))=some ⟨b,k * m,none⟩ by simp [add_lit]] at n_;have CG:(Builtin.zeroCells ei.zero.cells (xs.length - k)).toList.length=(xs.length - k) * m:=by
     rw [lU,size_zeroCells,hz e ei iw,hem]
    have tk:k * m+(xs.length - k) * m<=cur.size:=by
     rw [<-qu,b2,show k+(xs.length - k)=xs.length by omega];exact lT _ b3
    have yW:∀ v∈(Builtin.zeroCells ei.zero.cells (xs.length - k)).toList,v.oneCell'=true:=by
     rw [jQ];exact Oh (LP (hzd (λ_ _=>False)) _)
    have vo:=run_storeCells_at P b (k * m) e (Builtin.zeroCells ei.zero.cells (xs.length - k)).toList 0 cur w2 b1 (by rw [CG];simpa using tk) yW;rw [RJ] at vo;obtain ⟨cur',kc⟩:∃ cur':Array Value,(cur.toList.take (k * m)++(Builtin.zeroCells ei.zero.cells (xs.length - k)).toList++cur.toList.drop (k * m+(Builtin.zeroCells ei.zero.cells (xs.length - k)).toList.length)).toArray=cur':=⟨_,rfl⟩;rw [kc] at vo;have hrw:=e_.h.rewrite (cur':=cur') (zs:=xs.take k++List.replicate (xs.length - k) zd) hL hE b1 (by
     rw [<-kc];simp only [CM,iQ,mw,tf,lU,CG];omega) hlen (by
     intro cs ck;rcases gA.1 ck with h|h
     ·exact xw cs (Fc h)
     ·rw [List.eq_of_mem_replicate h,sB]) (by
     rw [hlen,<-kc,jQ,RG];have l1:(cur.toList.take (k * m)).length=k * m:=by rw [mw,lU];omega
     have l2:(List.replicate (xs.length - k) ei.zero.cells.toList).flatten.length=(xs.length - k) * m:=by rw [<-jQ,CG]
     have e1:xs.length * m=k * m+(xs.length - k) * m:=by rw [<-qu];congr 1;omega
     rw [e1,List.take_left' (by rw [iQ,l1,l2])];refine cf ?_ (LP (hzd _) _);rw [eI xs xw k];have:=gJ (k * m) b5
     rwa [WW,vd oM] at this)
    refine ⟨_,_,n_,λty=>?_,hrw.1,hrw.2⟩;obtain ⟨q,hq⟩:∃ q,xs.length - k=q+1:=⟨xs.length - k - 1,oM⟩;rw [hq] at vo ⊢;have WG:(zeroValue e).run P w2 = .ok ei.zero w2:=by simp [zeroValue,typeInfo,j1,j2]
    simp [Builtin.clear_,run_underlying jw,WG,vo]
   ·obtain rfl:k=xs.length:=oM;refine ⟨_,w2,n_,λty=>?_,?_,?_⟩
    ·rw [zfB];split<;>simp [Builtin.clear_,run_underlying jw]
    ·rw [show L.set i (AB.row e m (xs.take xs.length++List.replicate (xs.length - xs.length) zd) false)=L from by rw [lD,zfB];simpa using sL hL];exact e_.h
    ·rw [show L.set i (AB.row e m (xs.take xs.length++List.replicate (xs.length - xs.length) zd) false)=L from by rw [lD,zfB];simpa using sL hL];exact RC.le.refl _
theorem x6 {x y:Code} {Q:Exit->AF->List AB->Prop} {F:AF} {L:List AB} (h:AW P n k0 x (λe F L=>e = .normal/\AW P n k0 y Q F L) F L):AW P n k0 (.seq x y) Q F L:=by
 intro c E a w hc dS hk hs;refine wp_seq (wp_mono (h c E a w hc dS hk hs) ?_);rintro e a' w' ⟨E',F',L',h1,rfl,h2⟩;exact h2 c E' a' w' hc dS hk h1
def BB:Nat->Code->List Code
 | k+1,.seq x y=>x :: BB k y
 | _,_=>[]
def BC:Nat->Code->Code
 | k+1,.seq x y=>BC k y
 | _,c=>c
theorem yX:∀ (k:Nat) (c:Code),c=XN (BB k c) (BC k c)
 | 0,c=>by cases c<;>rfl
 | k+1,c=>by
   cases c with
   | seq x y=>exact lM (Code.seq x) (yX k y)
   | _=>rfl
theorem uF (ht:cp P tt) (hz:jL tt) (eZ:jx P fo) (m:Nat) {f:FuncId} {fn:Func} {code:Code} (hf:P.funcs[f]? = some fn) (hb:fn.body=some code) (hn:fn.ntmps=n) {rs:List ResultVar} (hr:fn.results.toList=rs)
  (ex:Bool) {cS:List AV} {cg:List AB} {post:AV->List AB->Prop} (hlen:Nat.ble cS.length n=true)
  (h:Z9 P tt fo n cg.length (λF L=>AW P n cg.length (BC m code) (λe F L=>(e = .ret∨e = .normal)/\xL tt ex cg.length rs post .ret F L) F L) (λF L=>xL tt ex cg.length rs post .ret F L) (BB m code) (oN cS 0) cg):ay P f cS cg post:=by
 refine vU ht hf hb hn hr ex hlen ?_;intro c a hc dS TZ hs;rw [yX m code];refine F7 ht hz eZ hc dS TZ ?_ (λE' F' L' a' w' hr bP=>⟨.inl rfl,E',F',L',hr,.inl bP⟩) _ h hs;intro E' F' L' a' w' hK bP;refine wpIn_mono (wpIn_wide.2 (hK c E' a' w' hc dS TZ bP)) ?_;rintro e a2 w2 ⟨E2,F2,L2,h1,h2,h3⟩;exact ⟨h2,E2,F2,L2,h3,.inl h1⟩
end
end Go.Ab
