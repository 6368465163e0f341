/- PrimaryExact: abstract runs. -/
import Derived.Test.YtolkmjfkkkiboaaGreatPrimaryExactLyis
set_option linter.all false
namespace Go.Ab
open Go.RowKit
def IQ:Sh->Value->Prop
 | .int,v=>∃ k,v = .j k
 | .str,v=>∃ s,v = .string s
 | .sl _,v=>v = .slice none 0 0
theorem F_ (lo n:Nat) (w:World) (k m:Nat):SL lo n w k m (.slice none 0 0):=by
 cases k with
 | zero=>rfl
 | succ k=>exact ⟨none,0,0,rfl,eQ _,⟨by simp [maxLen],oM⟩,.inl rfl⟩
theorem IQ.ok {lo n:Nat} {w:World} {k:Nat} {sh:Sh} {v:Value} (h:IQ sh v):aeI (λm' v'=>SL lo n w k m' v') sh v:=by
 cases sh with
 | int=>exact h
 | str=>exact h
 | sl m=>have h:v = .slice none 0 0:=h;subst h;exact F_ lo n w k m
theorem kD {w:World} {b k:Nat} {v:Value} {c:Array Value} {e:TypeId} {mk:Nat×Nat} (h:w.heap[b]? = some (.cells c e mk)):(w.setCell ⟨b,k,none⟩ v).heap[b]? = some (.cells (c.setIfInBounds k v) e mk):=by
 simp [World.setCell,zeR,h]
theorem kF {w:World} {b k j:Nat} {v:Value} (h:j≠b):(w.setCell ⟨b,k,none⟩ v).heap[j]? = w.heap[j]? := by
 simp [World.setCell,zeR,Ne.symm h]
theorem vW {w:World} {a:Addr} {v:Value}:(w.setCell a v).heap.size=w.heap.size:=by simp [World.setCell]
structure aY (lo n:Nat) (w w':World):Prop where
 os:w'.os=w.os
 tape:w'.tape=w.tape
 output:w'.output=w.output
 size:w.heap.size<=w'.heap.size
 block:∀ b,b<w.heap.size->¬(lo<=b/\b<lo+n)->w'.heap[b]? = w.heap[b]?
 sl:∀ k m v,SL lo n w k m v->SL lo n w' k m v
 CQ:iG w w'
theorem aY.refl (lo n:Nat) (w:World):aY lo n w w:=⟨rfl,rfl,rfl,eQ _,λ_ _ _=>rfl,λ_ _ _ h=>h,.refl w⟩
theorem aY.trans {lo n:Nat} {a b c:World} (h:aY lo n a b) (k:aY lo n b c):aY lo n a c :=
 ⟨k.os.trans h.os,k.tape.trans h.tape,k.output.trans h.output,fS h.size k.size,λx hx hn=>(k.block x (kO hx h.size) hn).trans (h.block x hx hn),λk1 m v hv=>k.sl _ _ _ (h.sl _ _ _ hv),h.CQ.trans k.CQ⟩
theorem aY.keeps {lo n:Nat} {w w':World} (hn:∀ b,lo<=b->b<lo+n->b<w.heap.size) (k:aO w w'):aY lo n w w' :=
 ⟨k.os,k.tape,k.output,k.size,λb hb _=>k.block b hb,λk1 m v hv=>ve (λb h1 h2 cur e m h=>by rw [k.block b (hn b h1 h2)];exact h) k1 m v hv,k.Sj⟩
theorem IS {w:World} {b o:Nat} {cur:Array Value} {e:TypeId} {mk:Nat×Nat} {u x:Value} (hh:w.heap[b]? = some (.cells cur e mk)) (hx:w.cell? ⟨b,o,none⟩=some x):(w.setCell ⟨b,o,none⟩ u).cell? ⟨b,o,none⟩=some u:=by
 rw [cell_of_row w b o cur e mk hh] at hx;have bB:o<cur.size:=(ud.1 hx).1;rw [cell_of_row _ b o _ e mk (kD hh),Array.getElem?_setIfInBounds_self_of_lt bB]
theorem IT {w:World} {b o:Nat} {a:Addr} {u:Value} (h:¬(a.block=b/\a.off=o)):(w.setCell ⟨b,o,none⟩ u).cell? a=w.cell? a:=by
 refine World.cell?_setCell_other _ _ _ _ (λe=>?_);subst e;exact h ⟨rfl,rfl⟩
theorem aY.cell {lo n:Nat} {w:World} {b o:Nat} {cur:Array Value} {e:TypeId} {mk:Nat×Nat} {u:Value} (h1:lo<=b) (h2:b<lo+n) (hh:w.heap[b]? = some (.cells cur e mk))
  (hu:∀ sh,(Hn (G9 e))[o % G9 e]? = some sh->IQ sh u):aY lo n w (w.setCell ⟨b,o,none⟩ u):=by
 refine ⟨rfl,rfl,rfl,by rw [vW];exact eQ _,λx _ hn=>kF λe=>hn (by subst e;exact ⟨h1,h2⟩),?_,?_⟩
 rotate_right
 ·intro x c1 e1 m1 k1 k2;by_cases hx:x=b
  ·subst hx;rw [hh] at k1;simp only [ke,Obj.cells.injEq] at k1;obtain ⟨rfl,rfl,rfl⟩:=k1;exact ⟨_,_,kD hh,by simp,by rw [zdV];exact k2⟩
  ·exact ⟨c1,m1,by rw [kF hx];exact k1,rfl,k2⟩
 intro k
 induction k with
 | zero=>intro m v hv;exact hv
 | succ k ih =>
   intro m v hv;obtain ⟨p,len,cap,k1,k2,k3,k4⟩:=hv;refine ⟨p,len,cap,k1,k2,k3,k4.imp id ?_⟩;rintro ⟨a,e1,e2,e3,e4,⟨gF,e',mk1,e5,e6,e7,e8,e9⟩,e10⟩;refine ⟨a,e1,e2,e3,e4,?_,λi j sh hi hj=>?_⟩
   ·by_cases hb:a.block=b
    ·rw [hb] at e5 ⊢;rw [hh] at e5;simp only [ke,Obj.cells.injEq] at e5;obtain ⟨rfl,rfl,rfl⟩:=e5;exact ⟨_,_,_,kD hh,by rw [zdV];exact e6,e7,e8,by rw [zdV];exact e9⟩
    ·exact ⟨gF,e',mk1,by rw [kF hb];exact e5,e6,e7,e8,e9⟩
   ·obtain ⟨u1,c1,c2⟩:=e10 i j sh hi hj;by_cases hx:a.block=b/\a.off+i * m+j=o
    ·obtain ⟨rfl,rfl⟩:=hx;rw [hh] at e5;simp only [ke,Obj.cells.injEq] at e5;obtain ⟨rfl,rfl,rfl⟩:=e5;have hjm:j<m:=kO (dW.1 hj).1 (WZ m);refine ⟨u,IS hh c1,(hu sh ?_).ok⟩;rw [e7];have:(a.off+i * m+j) % m=j:=by
      rw [zfD,zdA,Nat.add_mod,e8,gP,Nat.mod_mod,zd3 hjm]
     rw [this];exact hj
    ·refine ⟨u1,by rw [IT (a:=⟨a.block,a.off+i * m+j,none⟩) hx];exact c1,?_⟩
     cases sh with
     | int=>exact c2
     | str=>exact c2
     | sl m'=>exact ih m' u1 c2
theorem aY.cells {lo n:Nat} {b:Nat} {e:TypeId} {mk:Nat×Nat} (h1:lo<=b) (h2:b<lo+n):∀ (us:List Value) (o:Nat) (w:World) (cur:Array Value),w.heap[b]? = some (.cells cur e mk) ->
  (∀ (j:Nat) (u:Value),us[j]? = some u->∀ sh,(Hn (G9 e))[(o+j) % G9 e]? = some sh->IQ sh u)->aY lo n w (w.setCells b o us)
 | [],o,w,cur,_,_ => .refl _ _ _
 | u :: r,o,w,cur,hh,hu=>by
   refine (aY.cell h1 h2 hh (λsh hs=>hu 0 u rfl sh hs)).trans (aY.cells h1 h2 r (o+1) _ _ (kD hh) λj v hj sh hs=>hu (j+1) v (by simpa using hj) sh ?_);rw [show o+(j+1)=o+1+j by omega];exact hs
theorem vX {f:Nat->DV->Prop}:∀ {l:List Sh} {cs:List DV},Se f l cs->∀ {j:Nat} {sh:Sh},l[j]? = some sh->∃ x,cs[j]? = some x/\match sh with
  | .int=>∃ k,x = .j k
  | .str=>∃ s,x = .str s
  | .sl m=>f m x
 | [],cs,h,j,sh,hj=>by simp at hj
 | .int :: r,cs,h,j,sh,hj=>by
   obtain ⟨k,l,rfl,h2⟩:=h
   cases j with
   | zero=>simp at hj;subst hj;exact ⟨_,rfl,k,rfl⟩
   | succ j=>simpa using vX h2 (by simpa using hj)
 | .str :: r,cs,h,j,sh,hj=>by
   obtain ⟨k,l,rfl,h2⟩:=h
   cases j with
   | zero=>simp at hj;subst hj;exact ⟨_,rfl,k,rfl⟩
   | succ j=>simpa using vX h2 (by simpa using hj)
 | .sl m :: r,cs,h,j,sh,hj=>by
   obtain ⟨x,l,rfl,h1,h2⟩:=h
   cases j with
   | zero=>simp at hj;subst hj;exact ⟨_,rfl,h1⟩
   | succ j=>simpa using vX h2 (by simpa using hj)
theorem Og {rd:Addr->Value->Prop}:∀ {cs:List DV} {a:Addr},pF rd cs a->a.spot=none->∀ {j:Nat} {x:DV},cs[j]? = some x->∃ u,rd ⟨a.block,a.off+j,none⟩ u/\u.oneCell'=true/\VD rd x u
 | [],a,h,ha,j,x,hj=>by simp at hj
 | c :: r,a,h,ha,j,x,hj=>by
   simp only [pF] at h;obtain ⟨⟨u,h1,h0,h2⟩,h3⟩:=h
   cases j with
   | zero=>simp at hj;subst hj;exact ⟨u,by simpa [jF a ha] using h1,h0,h2⟩
   | succ j =>
     obtain ⟨u',k1,k2,k3⟩:=Og h3 rfl (j:=j) (by simpa using hj);exact ⟨u',by simpa [ZJ,ZK 1 j] using k1,k2,k3⟩
theorem T6 {lo n:Nat} {w:World}:∀ (k m:Nat) (x:DV) (v:Value),zq k m x->VD (rdI lo n w) x v->SL lo n w k m v
 | 0,m,x,v,hf,hv=>by
   have hf:x = .nils:=hf;subst hf;simp only [VD] at hv;exact hv
 | k+1,m,x,v,hf,hv=>by
   rcases hf with rfl|⟨xs,rfl,hl,hc⟩
   ·simp only [VD] at hv;subst hv;exact F_ lo n w (k+1) m
   ·simp only [VD] at hv;obtain ⟨hm,p,cap,rfl,h2,h3,h4,h5⟩:=hv;refine ⟨p,xs.length,cap,rfl,h2,⟨h3,hl⟩,?_⟩;by_cases h0:cap=0
    ·exact .inl h0
    refine .inr ?_
    cases p with
    | none=>exact absurd (h4 rfl) h0
    | some a =>
      obtain ⟨k1,k2,k3⟩:=h5 a rfl;obtain ⟨t1,t2,t3⟩:=k2 oM;rcases t3 with t3|⟨m',t4,t5⟩
      ·exact absurd (my t3) (by simp)
      cases t4
      obtain ⟨_,cur,e,mk,ek,t6,t7,t8,t9,t10,t11⟩:=t5 lo rfl;simp only [Value.slice.injEq,ke] at t6;obtain ⟨t6,_,rfl⟩:=t6;have gK:a.spot=none:=by rw [t6]
      refine ⟨a,rfl,gK,t1,t2,⟨cur,e,mk,t7,t8,t9,t10,t11⟩,λi j sh hi hj=>?_⟩;have hx:xs[i]? = some xs[i]:=ff hi;obtain ⟨g1,g2⟩:=pJ m k3 gK hx;obtain ⟨y,hy,hm⟩:=vX (hc _ (fU hx)) hj;obtain ⟨u,u1,u2,u3⟩:=Og g2 rfl hy;obtain ⟨_,_,u4⟩:=u1;rcases u4 with u4|⟨_,u4,_⟩
      rotate_left
      ·cases u4
      refine ⟨u,u4,?_⟩
      cases sh with
      | int=>obtain ⟨z,rfl⟩:=hm;simp only [VD] at u3;exact ⟨z,u3⟩
      | str=>obtain ⟨z,rfl⟩:=hm;simp only [VD] at u3;exact ⟨z,u3⟩
      | sl m'=>exact T6 k m' y u hm u3
theorem vY {lo n:Nat} {ok:zp} {w:World} {x:DV} {v:Value} {m:Nat} (hf:zq 3 m x) (h:jD w x v (.aN lo n ok)):SL lo n w 3 m v:=by
 cases ok with
 | bool ok =>
   cases ok with
   | true=>exact T6 3 m x v hf h
   | false=>exact h m hf
 | hole b k ok =>
   have hx:x.Nv=false:=by
    rcases hf with rfl|⟨xs,rfl,_⟩
    ·rfl
    ·rfl
   exact T6 3 m x v hf (VD.mono (λa u hr=>⟨hr.1,hr.2.1,hr.2.2.imp (λh=>h.1) id⟩) _ _ (h.1 hx))
theorem aI.afw {c:Ctx} (hc:c.wf) {E:Nat->Option Nat} {lo n:Nat} {ok:zp} {w w':World} (h:aI c E [.aN lo n ok] w) (hs:aY lo n w w') :
  aI c E [.aN lo n false] w'/\(aj c.M0 E [.aN lo n ok] w).le (aj c.M0 E [.aN lo n false] w'):=by
 have h0:([AB.aN lo n ok]:List AB)[0]? = some (.aN lo n ok):=rfl;have mG:∀ b,(lo<=b/\b<lo+n)↔b∈(AB.aN lo n ok).boxes:=λb=>by simp only [AB.boxes,Pv]
 have one:∀ (x:AB) (j:Nat) (ab:AB),([x]:List AB)[j]? = some ab->j=0/\ab=x:=by
  intro x j ab hj
  cases j with
  | zero=>simp at hj;exact ⟨rfl,hj.symm⟩
  | succ j=>simp at hj
 have hle:(aj c.M0 E [.aN lo n ok] w).le (aj c.M0 E [.aN lo n false] w'):=by
  refine ⟨?_,?_,?_,?_,?_⟩
  ·refine ug rfl hs.CQ λa u h1 h2=>?_;have hn:¬(lo<=a.block/\a.block<lo+n):=λhb=>h2 (.inr (.inr ⟨0,_,h0,(mG _).1 hb⟩));refine ⟨by rw [World.cell?_of_block (w:=w) (hs.block a.block (jE h1) hn)];exact h1,?_⟩;rintro (hm|⟨i,ab,hi,he,hm⟩|⟨i,ab,hi,hm⟩)
   ·exact h2 (.inl hm)
   ·obtain ⟨rfl,rfl⟩:=one _ _ _ hi;exact hm.elim
   ·obtain ⟨rfl,rfl⟩:=one _ _ _ hi;exact hn ((mG _).2 hm)
  ·rintro i b ⟨ab,h1,h2,h3⟩;obtain ⟨rfl,rfl⟩:=one _ _ _ h1;simp [AB.gB] at h2
  ·rintro i v ⟨ab,h1,h2⟩;obtain ⟨rfl,rfl⟩:=one _ _ _ h1;exact h2.elim
  ·rintro i j o v ⟨ab,h1,h2⟩;obtain ⟨rfl,rfl⟩:=one _ _ _ h1;exact h2.elim
  ·rintro i x v ⟨ab,h1,h2⟩;obtain ⟨rfl,rfl⟩:=one _ _ _ h1;refine ⟨.aN lo n false,rfl,λm hf=>?_⟩;exact hs.sl _ _ _ (vY hf h2)
 refine ⟨⟨hs.os.trans h.os,hs.tape.trans h.tape,hs.output.trans h.output,fS h.size hs.size,?_,?_,?_,?_,h.q_.trans hle,?_⟩,hle⟩
 ·intro b hp;have hn:¬(lo<=b/\b<lo+n):=λhb=>h.bx.low 0 _ b h0 ((mG _).1 hb) hp;rw [hs.block b (kO (hc.low b hp) h.size) hn];exact h.gS b hp
 ·intro j ab hj;obtain ⟨rfl,rfl⟩:=one _ _ _ hj;intro b h1 h2;have:=h.blt h0 ((mG b).1 ⟨h1,h2⟩);exact ⟨_,ZE (kO this hs.size)⟩
 ·intro j ab b hj hl;obtain ⟨rfl,rfl⟩:=one _ _ _ hj
  cases hl
 ·intro i j ab bQ b hi hj hl;obtain ⟨rfl,rfl⟩:=one _ _ _ hi
  cases hl
 ·refine ⟨?_,?_,?_,?_⟩
  ·intro j ab b hj hb;obtain ⟨rfl,rfl⟩:=one _ _ _ hj;exact h.bx.low 0 _ b h0 hb
  ·intro i j ab bQ b hi hb hj hl;obtain ⟨rfl,rfl⟩:=one _ _ _ hj
   cases hl
  ·intro j ab hj;obtain ⟨rfl,rfl⟩:=one _ _ _ hj;have:=h.bx.nd 0 _ h0;exact this
  ·intro i j ab bQ b hi hj _ _;obtain ⟨rfl,rfl⟩:=one _ _ _ hi;obtain ⟨rfl,_⟩:=one _ _ _ hj;rfl
theorem uD {c:Ctx} {E:Nat->Option Nat} {lo n:Nat} {ok:zp} {w:World} {x:DV} {v:Value} {m:Nat} (hf:zq 3 m x) (h:VR (aj c.M0 E [.aN lo n ok] w) (.isl 0 x) v):SL lo n w 3 m v:=by
 simp only [VR] at h;obtain ⟨⟨ab,bC,hr⟩,_⟩:=h;simp at bC;subst bC;exact vY hf hr
theorem vZ {P:Program} {f:FuncId} {cS:List AV} {lo n:Nat} {ok:zp}
  (h:∀ (c:Ctx) (E:Nat->Option Nat) (w:World) (vs:Array Value),(∀ b,lo<=b->b<lo+n->b<w.heap.size)->cD (aj c.M0 E [.aN lo n ok] w) cS vs.toList->Calls P f vs w λe w'=>e = .returned (.tuple #[])/\aY lo n w w') :
  ay P f cS [.aN lo n ok] (λav L=>av = .tup []/\L=[.aN lo n false]):=by
 intro c vs hc hL hs hv;have h0:([AB.aN lo n ok]:List AB)[0]? = some (.aN lo n ok):=rfl;have hn:∀ b,lo<=b->b<lo+n->b<c.w0.heap.size:=λb h1 h2=>hs.blt h0 (by simp only [AB.boxes,Pv];exact ⟨h1,h2⟩);refine (h c c.E0 c.w0 vs hn hv).mono ?_;rintro e w' ⟨rfl,gK⟩;exact ⟨_,.tup [],_,c.E0,rfl,⟨rfl,rfl⟩,(hs.afw hc gK).1,by simp [VR,cD]⟩
end Go.Ab
