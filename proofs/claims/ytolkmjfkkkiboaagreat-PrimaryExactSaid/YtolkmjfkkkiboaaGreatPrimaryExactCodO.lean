/- PrimaryExact: contracts. -/
import Derived.Test.YtolkmjfkkkiboaaGreatPrimaryExactCodM
set_option linter.all false
set_option maxHeartbeats 2000000
set_option maxRecDepth 100000
namespace Go.Proofs.YtolkmjfkkkiboaaGreat
open Go.Ab Go.RowKit Go.MapKept Tryz
attribute [local irreducible] ay AW cw eA eo bL
def Cert.O5 (c:Cert):List DV:=[.j c.af,.j c.round,.slo 1 (nums c.aE),.slo 1 (nums c.ao),.j c.ae,.slo 1 (nums c.sigs)]
def jZ (l:List Cert):List (List DV):=l.map Cert.O5
theorem B_ (l:List Cert):(jZ l).length=l.length:=tg ..
theorem MP {l:List Cert} {k:Nat} {a:Cert} (h:l[k]? = some a):(jZ l)[k]? = some a.O5:=by simp [jZ,h]
def Cert.Dl (c:Cert):AV := .agg [.k c.af,.k c.round,.d (.slo 1 (nums c.aE)),.d (.slo 1 (nums c.ao))]
def Cert.nk (c:Cert):AV := .agg (c.O5.map AV.d)
def Dag.nk (d:Dag):AV := .agg [.k d.nodes,.k d.low,.d (.slo 6 (jZ d.aa))]
def Prim.O5 (p:Prim):List DV:=[.j p.id,.j p.nodes,.j p.round,.j p.iq,.j p.said,.j p.aK.af,.j p.aK.round,.slo 1 (nums p.aK.aE),.slo 1 (nums p.aK.ao),.j p.dD,.slo 1 (nums p.aL),.slo 3 (ax p.aA),.j p.aq.nodes,.j p.aq.low,.slo 6 (jZ p.aq.aa),.slo 6 (jZ p.late)]
def Prim.nk (p:Prim):AV := .agg (p.O5.map AV.d)
theorem ow (n:Int):LO (.j n) (.j n) := .flat (Ix _ _)
theorem VB (l:List Int):C7 (nums l) (nums l):=C7.map (f:=λx=>[.j x]) (λ_ => .cons (ow _) .nil) l
theorem QW (l:List bb):C7 (ax l) (ax l):=C7.map (λ_ => .cons (ow _) (.cons (ow _) (.cons (ow _) .nil))) l
theorem dK (l:List Int):LO (.sl 1 (nums l)) (.slo 1 (nums l)) := .sl (VB l)
theorem VC (c:Cert):WK c.cs c.O5 := .cons (ow _) (.cons (ow _) (.cons (dK _) (.cons (dK _) (.cons (ow _) (.cons (dK _) .nil)))))
theorem J6 (l:List Cert):LO (.sl 6 (ah l)) (.slo 6 (jZ l)) := .sl (C7.map VC l)
theorem dV (l:List Int):TP (.slo 1 (nums l)) (.sl 1 (nums l)) := .slo (.refl _)
theorem VE (c:Cert):P2 c.O5 c.cs := .cons (.refl _) (.cons (.refl _) (.cons (dV _) (.cons (dV _) (.cons (.refl _) (.cons (dV _) .nil)))))
theorem J7 (l:List Cert):TP (.slo 6 (jZ l)) (.sl 6 (ah l)) := .slo (Iy.map VE l)
theorem iP {L:List AB} {y y':DV} (h:TP y y'):rQ L (.d y) (.d y') := .inr (.inr (.inr (.inr (.inl ⟨_,_,rfl,rfl,h⟩))))
theorem aw {L:List AB} {a b:AV} {r r':List AV} (h:rQ L a b) (k:yU L r r'):yU L (a :: r) (b :: r'):=⟨_,_,rfl,h,k⟩
theorem nT {L:List AB}:yU L [] []:=rfl
theorem bG {L:List AB} (n:Int):rQ L (.k n) (.k n) := .inl ⟨_,rfl,rfl⟩
theorem VF (p:Prim):yV [] p.nk p.av := .inr ⟨_,_,rfl,rfl,aw (bG _) (aw (bG _) (aw (bG _) (aw (bG _) (aw (bG _) (aw (bG _) (aw (bG _) (aw (iP (dV _)) (aw (iP (dV _)) (aw (bG _) (aw (iP (dV _)) (aw (iP (.slo (.refl _))) (aw (bG _) (aw (bG _) (aw (iP (J7 _)) (aw (iP (J7 _)) nT)))))))))))))))⟩
theorem cE {L:List AB} (n:Int):xY L (.k n) (.k n) := .inl ⟨_,_,rfl,rfl,ow n⟩
theorem lx {L:List AB} {y y':DV} (h:LO y y'):xY L (.d y) (.d y') := .inl ⟨_,_,rfl,rfl,h⟩
theorem nm (L:List AB) (p:Prim):xZ L p.av p.nk := .inr ⟨_,_,rfl,rfl,.cons (cE _) (.cons (cE _) (.cons (cE _) (.cons (cE _) (.cons (cE _) (.cons (cE _) (.cons (cE _) (.cons (lx (dK _)) (.cons (lx (dK _)) (.cons (cE _) (.cons (lx (dK _)) (.cons (lx (.sl (QW _))) (.cons (cE _) (.cons (cE _) (.cons (lx (J6 _)) (.cons (lx (J6 _)) .nil)))))))))))))))⟩
theorem nU (l:List Int) (hl:l.length<=1099511627776):zA 143 [.d (.slo 1 (nums l))] [] (pQ (.arr 0) [.row 3 1 (nums l) false]):=by
 have eM:=nums_length l;refine CI func143 ntmps143 ?_;intro b hb;refine rdv ?_;repeat' (apply tw<;>intro _)
 ·rename_i h;have:l=[]:=by simpa [nums] using hb h
  subst this;exact ⟨rfl,rfl⟩
 ·rename_i h;refine ⟨by rw [eM];show (0+l.length) * 8<=_;omega,?_⟩
  conv=>whnf
  exact ⟨rfl,rfl⟩
theorem J8 (l:List bb) (hl:l.length<=1099511627776):zA 147 [.d (.slo 3 (ax l))] [] (pQ (.arr 0) [.row 106 3 (ax l) false]):=by
 have eM:=aV l;refine CI func147 ntmps147 ?_;intro b hb;refine rdv ?_;repeat' (apply tw<;>intro _)
 ·rename_i h;have:l=[]:=by simpa [ax] using hb h
  subst this;exact ⟨rfl,rfl⟩
 ·rename_i h;refine ⟨by rw [eM];show (0+l.length) * 24<=_;omega,?_⟩
  conv=>whnf
  exact ⟨rfl,rfl⟩
theorem J9 (c:Cert) (h:c.aJ):zA 144 [c.Dl] [] (pQ (.agg [.k c.af,.k c.round,.arr 0,.arr 1]) [.row 3 1 (nums c.aE) false,.row 3 1 (nums c.ao) false]):=by
 refine CI func144 ntmps144 ?_;refine cP Oy ?_;refine aQ (nU c.aE h.aE) ?_;refine aQ (nU c.ao h.ao) ?_;exact ⟨rfl,rfl⟩
theorem sk (c:Cert) (h:c.aJ):zA 180 [c.nk] [] (λav L=>av=c.av/\L=[]):=by
 have h1:zA 180 [c.nk] [] (pQ (.agg [.k c.af,.k c.round,.arr 0,.arr 1,.k c.ae,.arr 2]) [.row 3 1 (nums c.aE) false,.row 3 1 (nums c.ao) false,.row 3 1 (nums c.sigs) false]):=by
  refine CI func180 ntmps180 ?_;refine cP OF ?_;refine aQ (J9 c h) ?_;refine aQ (nU c.sigs h.sigs) ?_;exact ⟨rfl,rfl⟩
 refine bT h1 ?_;rintro _ _ ⟨rfl,rfl⟩
 conv=>whnf
 exact ⟨rfl,rfl⟩
theorem ua (l:List Cert) (hl:aJ l) (h:∀ c∈l,c.aJ):zA 149 [.d (.slo 6 (jZ l))] [] (pQ (.arr 0) [.row 47 6 (ah l) false]):=by
 have hx:=B_ l;unfold aJ at hl;refine CI func149 ntmps149 ?_;refine aH aF bf aG (σ:=Nat) (λk=>([(5,.d (.slo 6 (jZ l))),(6,.k l.length),(7,.k k),(2,.arr 0)],[.row 47 6 (ah (l.take k)) false])) (λk=>k<=l.length) (λk=>l.length - k) [5,6,7,2] ?_ ?_
 ·conv=>whnf
  exact ⟨0,by rw [hx];rfl,rfl,oM⟩
 ·intro k hk;refine rdv ?_;repeat' (apply tw<;>intro _)
  ·rename_i h2;refine eG l k λa ha=>?_;have FN:=ak (l.take k);refine ⟨oM,a.O5,MP ha,?_⟩;refine rdv ?_;refine aQ (sk a (h a (fU ha))) ?_;refine ⟨by simp [FN];omega,?_⟩;refine rdv ?_;refine ⟨k+1,rfl,?_,oM,oM⟩;rw [iu,ha];simp [ah,Cert.cs]
  ·rename_i h2;rw [gx oM];exact ⟨rfl,rfl⟩
theorem Ca (l:List Int) (hl:l.length<=1099511627776):zA 143 [.d (.slo 1 (nums l))] [] (pQ (.d (.sl 1 (nums l))) []):=by
 refine bT (nU l hl) ?_;rintro _ _ ⟨rfl,rfl⟩
 conv=>whnf
 exact ⟨rfl,rfl⟩
theorem Cb (l:List bb) (hl:l.length<=1099511627776):zA 147 [.d (.slo 3 (ax l))] [] (pQ (.d (.sl 3 (ax l))) []):=by
 refine bT (J8 l hl) ?_;rintro _ _ ⟨rfl,rfl⟩
 conv=>whnf
 exact ⟨rfl,rfl⟩
theorem Aj (c:Cert) (h:c.aJ):zA 144 [c.Dl] [] (λav L=>av=c.pD/\L=[]):=by
 refine bT (J9 c h) ?_;rintro _ _ ⟨rfl,rfl⟩
 conv=>whnf
 exact ⟨rfl,rfl⟩
theorem wS (l:List Cert) (hl:aJ l) (h:∀ c∈l,c.aJ):zA 149 [.d (.slo 6 (jZ l))] [] (pQ (.d (.sl 6 (ah l))) []):=by
 refine bT (ua l hl h) ?_;rintro _ _ ⟨rfl,rfl⟩
 conv=>whnf
 exact ⟨rfl,rfl⟩
theorem Cc (d:Dag) (hl:aJ d.aa) (h:∀ c∈d.aa,c.aJ):zA 148 [d.nk] [] (λav L=>av=d.av/\L=[]):=by
 have h1:=wS d.aa hl h;refine dB func148 ntmps148 ?_;refine aQ h1 ?_;exact ⟨rfl,rfl⟩
theorem ly (p:Prim) (h:p.aJ):zA 94 [p.nk] [] (λav L=>av=p.av/\L=[]):=by
 refine dB func94 ntmps94 ?_;refine cP LU ?_;refine aQ (Aj p.aK h.aK) ?_;refine aQ (Ca p.aL h.aL) ?_;refine aQ (Cb p.aA h.aA) ?_;refine cP LV ?_;refine aQ (Cc p.aq h.aq.1 h.aq.2) ?_;refine aQ (wS p.late h.late.1 h.late.2) ?_;exact ⟨rfl,rfl⟩
open Classical in
theorem ic (p:Prim) (bw:p.ok):zA 41 [p.nk] [] (pQ (.d (.bool (decide (ec p)))) []) :=
 bS (cG _) ⟨_,_,rfl,VF p,rfl⟩ (mj p bw)
open Classical in
theorem VG (p:Prim) (bw:p.ok):zA 52 [p.nk] [] (λav L=>((ec p/\av=sb (gv p) (gw (gv p)))∨(¬ec p/\av=nj 1))/\L=[]):=by
 have hm:=ic p bw;refine gG func52 ntmps52 ?_;refine hm.mono ?_;rintro _ _ ⟨rfl,rfl⟩;by_cases k1:ec p
 ·rw [cz k1];have rL:=ly p (k1.aJ bw.sigs);have agt:=QM p (k1.ajk bw.sigs);refine rdv ?_;refine aQ rL ?_;refine aQ agt ?_;exact ⟨.inl ⟨k1,rfl⟩,rfl⟩
 ·rw [aP k1];refine rdv ?_;exact ⟨.inr ⟨k1,rfl⟩,rfl⟩
end Go.Proofs.YtolkmjfkkkiboaaGreat
open Go Go.Claim Go.Proofs Tryz
namespace Go.Proofs.YtolkmjfkkkiboaaGreat
open Go.Ab Go.RowKit Go.MapKept Tryz
attribute [local irreducible] ay AW cw eA eo bL
theorem YV:(prog.info? 3).map (λi=>(i.zero,i.size,i.bytes))=some (some (.j 0),1,8):=kR
theorem VH {k:Nat} {u:Value} {sh:Sh} (h:([Value.j 5]:List Value)[k]? = some u) (hs:(Hn 1)[k]? = some sh):IQ sh u:=by
 cases k with
 | zero =>
   simp at h;subst h;have:sh = .int:=by simpa [Hn] using hs.symm
   subst this;exact ⟨5,rfl⟩
 | succ k=>simp at h
set_option maxRecDepth 100000 in
theorem je (lo n k:Nat) (w:World) (v:Value) (hv:SL lo n w (k+1) 1 v) (jl:∀ b,lo<=b->b<lo+n->b<w.heap.size) :
  Calls prog 50 #[v] w λe w'=>e = .returned (.tuple #[])/\aY lo n w w':=by
 obtain ⟨p,len,cap,rfl,k1,⟨k2,k3⟩,k4⟩:=id hv
 go_enter func50,ntmps50
 go_wp2
 go_loopw [2] (λi wr=>∃ j:Nat,j<=len/\i = .j j/\aY lo n w wr)
  (λi _=>len - (intOf i).toNat)
 case atStart=>exact ⟨0,br _,rfl,aY.refl _ _ _⟩
 case round =>
  obtain ⟨j,hj,rfl,hS⟩:=hrel;have oz:=hS.sl _ _ _ hv;have jg:∀ b,lo<=b->b<lo+n->b<wr.heap.size:=λb h1 h2=>kO (jl b h1 h2) hS.size;by_cases lA:j<len
  ·rcases k4 with rfl|⟨⟨b,off,sp⟩,rfl,rfl,_⟩
   ·omega
   obtain ⟨p',J_,ek,e1,_,_,k5⟩:=oz
   cases e1
   rcases k5 with h0|⟨q,e2,_,q3,q4,⟨cur,e',mk,q5,q6,q7,q8,q9⟩,ln⟩
   ·omega
   cases e2
   obtain ⟨u,u1,x,rfl⟩:=ln j 0 .int lA rfl;simp only [xh,RJ] at u1 q5 q9 q3 q4;have bB:off+j<cur.size:=oM;have hfz:wr.frozen? { block:=b,off:=off+j }=false:=by
    have hq6:=q6 _ bB;unfold World.frozen?;rw [q5];show (decide (mk.1<=off+j)&&decide (off+j<mk.2))=false;by_cases hp:mk.1<=off+j
    ·rw [aP (p:=off+j<mk.2) λh=>hq6 ⟨hp,h⟩,Bool.and_false]
    ·rw [aP hp,Bool.false_and]
   go_wp2
   refine ⟨⟨j+1,oM,by go_num,hS.trans (aY.cell q3 q4 q5 λsh hs=>?_)⟩,by simp [intOf];omega⟩;rw [q7,zfP] at hs;have:sh = .int:=by simpa [Hn] using hs.symm
   subst this;exact ⟨-99,rfl⟩
  ·obtain rfl:j=len:=oM;obtain ⟨i0,hi,vr,pB,oA⟩:=info_parts YV
   go_wp2_with (at_builtin;refine ez _ rfl (.tmp 12) (.tmp 13) 22 rfl 3 i0 (.j 0) 1 8 Tryz.underlying22 hi vr pB oA rfl dC (lo:=lo) (n:=n) (k:=k) (v := .slice p j cap) ?sl rfl ⟨wr.heap.size,0,none⟩ 1 [.j 5] rfl rfl ?c1 ?c2 (λj u sh h hs=>VH h hs) dC ?bl ?go)
   case sl=>exact (aY.keeps jg (aO.alloc wr _)).sl _ _ _ oz
   case c1=>intro j u hj;match j,hj with|0,hj=>simp at hj;subst hj;simp [Addr.add]
   case c2=>intro u hu;simp at hu;subst hu;rfl
   case bl=>exact λb h1 h2=>kO (jg b h1 h2) (aO.alloc wr _).size
   case go =>
    intro v' w' tA _
    go_wp2
    go_end0
    exact ⟨rfl,(hS.trans (aY.keeps jg (aO.alloc wr _))).trans tA⟩
end Go.Proofs.YtolkmjfkkkiboaaGreat
open Go Go.Claim Go.Proofs Tryz
namespace Go.Proofs.YtolkmjfkkkiboaaGreat
open Go.Ab Go.RowKit Go.MapKept Tryz
attribute [local irreducible] ay AW cw eA eo bL
theorem dO {lo n:Nat} {w:World} {k m:Nat} {v:Value} (h:SL lo n w (k+1) m v):∃ p l c,v = .slice p l c:=by
 obtain ⟨p,l,c,e,_⟩:=h;exact ⟨p,l,c,e⟩
theorem wT {lo n:Nat} {w:World} (jl:∀ b,lo<=b->b<lo+n->b<w.heap.size) {b:Nat} (h:w.heap.size<=b):¬(lo<=b/\b<lo+n):=λk=>Nat.lt_irrefl _ (kO (jl b k.1 k.2) h)
theorem aY.cellOf {lo n:Nat} {w w':World} (h:aY lo n w w') {a:Addr} {u:Value} (hn:¬(lo<=a.block/\a.block<lo+n)) (hc:w.cell? a=some u):w'.cell? a=some u:=by
 rw [World.cell?_of_block (w:=w) (h.block a.block (jE hc) hn)];exact hc
set_option maxRecDepth 100000 in
theorem sZ (lo n k:Nat) (w:World) (au ro:Int) (v1 v2:Value) (h1:SL lo n w (k+1) 1 v1) (h2:SL lo n w (k+1) 1 v2) (jl:∀ b,lo<=b->b<lo+n->b<w.heap.size) :
  Calls prog 47 #[.agg #[.j au,.j ro,v1,v2]] w λe w'=>e = .returned (.tuple #[])/\aY lo n w w':=by
 obtain ⟨p1,l1,c1,rfl⟩:=dO h1;obtain ⟨p2,l2,c2,rfl⟩:=dO h2;have hA:=aY.keeps jl (aO.alloc w (.cells #[.j au,.j ro,.slice p1 l1 c1,.slice p2 l2 c2] 24));have Ka:∀ b,lo<=b->b<lo+n->b<(w.alloc (.cells #[.j au,.j ro,.slice p1 l1 c1,.slice p2 l2 c2] 24)).heap.size:=λb g1 g2=>kO (jl b g1 g2) hA.size;have ri:(w.alloc (.cells #[.j au,.j ro,.slice p1 l1 c1,.slice p2 l2 c2] 24)).cell? ⟨w.heap.size,3,none⟩=some (.slice p2 l2 c2):=by
  rw [cell_of_row _ _ 3 _ _ _ (heap_alloc_new w _)];rfl
 have jN:¬(lo<=w.heap.size/\w.heap.size<lo+n):=wT jl (eQ _)
 go_enter func47,ntmps47
 go_wp2_with (go_at_call 50;(with_reducible refine (je lo n k _ (.slice p1 l1 c1) (hA.sl _ _ _ h1) Ka).mono ?_);rintro e w1 ⟨rfl,ub⟩;have hc3:=aY.cellOf (a:=⟨w.heap.size,3,none⟩) ub jN ri)
 go_wp2_with (go_at_call 50;(with_reducible refine (je lo n k _ (.slice p2 l2 c2) (ub.sl _ _ _ (hA.sl _ _ _ h2)) (λb g1 g2=>kO (Ka b g1 g2) ub.size)).mono ?_);rintro e w2 ⟨rfl,tA⟩)
 go_end0
 exact ⟨rfl,hA.trans (ub.trans tA)⟩
set_option maxRecDepth 100000 in
theorem GK (lo n k:Nat) (w:World) (au ro di:Int) (v1 v2 v3:Value) (h1:SL lo n w (k+1) 1 v1) (h2:SL lo n w (k+1) 1 v2) (h3:SL lo n w (k+1) 1 v3) (jl:∀ b,lo<=b->b<lo+n->b<w.heap.size) :
  Calls prog 121 #[.agg #[.j au,.j ro,v1,v2,.j di,v3]] w λe w'=>e = .returned (.tuple #[])/\aY lo n w w':=by
 obtain ⟨p1,l1,c1,rfl⟩:=dO h1;obtain ⟨p2,l2,c2,rfl⟩:=dO h2;obtain ⟨p3,l3,c3,rfl⟩:=dO h3;have hA:=aY.keeps jl (aO.alloc w (.cells #[.j au,.j ro,.slice p1 l1 c1,.slice p2 l2 c2,.j di,.slice p3 l3 c3] 47));have Ka:∀ b,lo<=b->b<lo+n->b<(w.alloc (.cells #[.j au,.j ro,.slice p1 l1 c1,.slice p2 l2 c2,.j di,.slice p3 l3 c3] 47)).heap.size:=λb g1 g2=>kO (jl b g1 g2) hA.size;have ri:(w.alloc (.cells #[.j au,.j ro,.slice p1 l1 c1,.slice p2 l2 c2,.j di,.slice p3 l3 c3] 47)).cell? ⟨w.heap.size,5,none⟩=some (.slice p3 l3 c3):=by
  rw [cell_of_row _ _ 5 _ _ _ (heap_alloc_new w _)];rfl
 have jN:¬(lo<=w.heap.size/\w.heap.size<lo+n):=wT jl (eQ _)
 go_enter func121,ntmps121
 go_wp2_with (go_at_call 47;(with_reducible refine (sZ lo n k _ au ro (.slice p1 l1 c1) (.slice p2 l2 c2) (hA.sl _ _ _ h1) (hA.sl _ _ _ h2) Ka).mono ?_);rintro e w1 ⟨rfl,ub⟩;have hc3:=aY.cellOf (a:=⟨w.heap.size,5,none⟩) ub jN ri)
 go_wp2_with (go_at_call 50;(with_reducible refine (je lo n k _ (.slice p3 l3 c3) (ub.sl _ _ _ (hA.sl _ _ _ h3)) (λb g1 g2=>kO (Ka b g1 g2) ub.size)).mono ?_);rintro e w2 ⟨rfl,tA⟩)
 go_end0
 exact ⟨rfl,hA.trans (ub.trans tA)⟩
end Go.Proofs.YtolkmjfkkkiboaaGreat
open Go Go.Claim Go.Proofs Tryz
namespace Go.Proofs.YtolkmjfkkkiboaaGreat
open Go.Ab Go.RowKit Go.MapKept Tryz
attribute [local irreducible] ay AW cw eA eo bL
theorem bo {w:World} {b o:Nat} {cur:Array Value} {e:TypeId} {mk:Nat×Nat} (h:w.heap[b]? = some (.cells cur e mk)) (hu:xj mk cur.size) (ho:o<cur.size):w.frozen? ⟨b,o,none⟩=false:=by
 have hq6:=hu o ho;unfold World.frozen?;rw [h];show (decide (mk.1<=o)&&decide (o<mk.2))=false;by_cases hp:mk.1<=o
 ·rw [aP (p:=o<mk.2) λh=>hq6 ⟨hp,h⟩,Bool.and_false]
 ·rw [aP hp,Bool.false_and]
def zi (l:List Sh) (us:List Value):Prop:=∀ (i:Nat) (u:Value) (sh:Sh),us[i]? = some u->l[i]? = some sh->IQ sh u
theorem Kb:zi [] []:=λi u sh h=>by simp at h
theorem de {sh:Sh} {u:Value} {l:List Sh} {us:List Value} (h:IQ sh u) (k:zi l us):zi (sh :: l) (u :: us):=λi v sv h1 h2=>by
 cases i with
 | zero=>simp at h1 h2;subst h1;subst h2;exact h
 | succ i=>exact k i v sv (by simpa using h1) (by simpa using h2)
theorem aY.elem {lo n:Nat} {w:World} {b off j m:Nat} {cur:Array Value} {e:TypeId} {mk:Nat×Nat} (q3:lo<=b) (q4:b<lo+n) (q5:w.heap[b]? = some (.cells cur e mk)) (q7:G9 e=m) (q8:off % m=0) (us:List Value) (hl:us.length<=m) (ht:zi (Hn m) us) :
  aY lo n w (w.setCells b (off+j * m) us) :=
 aY.cells q3 q4 us _ w cur q5 λi u hi sh hs=>ht i u sh hi (by
  have Xl:i<m:=kO (dW.1 hi).1 hl;have:(off+j * m+i) % m=i:=by
   rw [zfD,zdA,Nat.add_mod,q8,gP,Nat.mod_mod,zd3 Xl]
  rwa [q7,this] at hs)
theorem pg (w:World) (cur:Array Value) (e:TypeId) (j:Nat):(w.alloc (.cells cur e)).cell? ((⟨w.heap.size,0,none⟩:Addr).add j)=cur[j]? := by
 rw [add_lit _ rfl,gP,cell_of_row _ _ _ _ _ _ (heap_alloc_new w _)]
theorem agu {lo n k:Nat} {w:World} {b off len cap j:Nat} (h:SL lo n w (k+1) 3 (.slice (some ⟨b,off,none⟩) len cap)) (hj:j<len) :
  ∃ (z0:Int) (z1:Int) (z2:Int) (cur:Array Value) (e:TypeId) (mk:Nat×Nat),w.cell? ⟨b,off+j * 3,none⟩=some (.j z0)/\w.cell? ⟨b,off+j * 3+1,none⟩=some (.j z1)/\w.cell? ⟨b,off+j * 3+2,none⟩=some (.j z2)/\w.frozen? ⟨b,off+j * 3,none⟩=false/\w.frozen? ⟨b,off+j * 3+1,none⟩=false/\w.frozen? ⟨b,off+j * 3+2,none⟩=false/\lo<=b/\b<lo+n/\w.heap[b]? = some (.cells cur e mk)/\G9 e=3/\off % 3=0:=by
 obtain ⟨p',J_,ek,e1,k1,_,k5⟩:=h
 cases e1
 rcases k5 with h0|⟨q,e2,_,q3,q4,⟨cur,e',mk,q5,q6,q7,q8,q9⟩,ln⟩
 ·omega
 cases e2
 have bB:off+j * 3+2<cur.size:=by
  have:(j+1) * 3<=cap * 3:=lT _ oM;simp only at q9;omega
 obtain ⟨u0,c0,z0,rfl⟩:=ln j 0 .int hj rfl;obtain ⟨u1,c1,z1,rfl⟩:=ln j 1 .int hj rfl;obtain ⟨u2,c2,z2,rfl⟩:=ln j 2 .int hj rfl;exact ⟨z0,z1,z2,cur,e',mk,c0,c1,c2,bo q5 q6 oM,bo q5 q6 oM,bo q5 q6 oM,q3,q4,q5,q7,q8⟩
theorem agv {lo n k:Nat} {w:World} {b off len cap j:Nat} (h:SL lo n w (k+1) 4 (.slice (some ⟨b,off,none⟩) len cap)) (hj:j<len) :
  ∃ (z0:Int) (z1:Int) (t2:ByteArray) (t3:ByteArray) (cur:Array Value) (e:TypeId) (mk:Nat×Nat),w.cell? ⟨b,off+j * 4,none⟩=some (.j z0)/\w.cell? ⟨b,off+j * 4+1,none⟩=some (.j z1)/\w.cell? ⟨b,off+j * 4+2,none⟩=some (.string t2)/\w.cell? ⟨b,off+j * 4+3,none⟩=some (.string t3)/\w.frozen? ⟨b,off+j * 4,none⟩=false/\w.frozen? ⟨b,off+j * 4+1,none⟩=false/\w.frozen? ⟨b,off+j * 4+2,none⟩=false/\w.frozen? ⟨b,off+j * 4+3,none⟩=false/\lo<=b/\b<lo+n/\w.heap[b]? = some (.cells cur e mk)/\G9 e=4/\off % 4=0:=by
 obtain ⟨p',J_,ek,e1,k1,_,k5⟩:=h
 cases e1
 rcases k5 with h0|⟨q,e2,_,q3,q4,⟨cur,e',mk,q5,q6,q7,q8,q9⟩,ln⟩
 ·omega
 cases e2
 have bB:off+j * 4+3<cur.size:=by
  have:(j+1) * 4<=cap * 4:=lT _ oM;simp only at q9;omega
 obtain ⟨u0,c0,z0,rfl⟩:=ln j 0 .int hj rfl;obtain ⟨u1,c1,z1,rfl⟩:=ln j 1 .int hj rfl;obtain ⟨u2,c2,t2,rfl⟩:=ln j 2 .str hj rfl;obtain ⟨u3,c3,t3,rfl⟩:=ln j 3 .str hj rfl;exact ⟨z0,z1,t2,t3,cur,e',mk,c0,c1,c2,c3,bo q5 q6 oM,bo q5 q6 oM,bo q5 q6 oM,bo q5 q6 oM,q3,q4,q5,q7,q8⟩
theorem aaG {lo n k:Nat} {w:World} {b off len cap j:Nat} (h:SL lo n w (k+1) 6 (.slice (some ⟨b,off,none⟩) len cap)) (hj:j<len) :
  ∃ (z0:Int) (z1:Int) (u2:Value) (u3:Value) (z4:Int) (u5:Value) (cur:Array Value) (e:TypeId) (mk:Nat×Nat),w.cell? ⟨b,off+j * 6,none⟩=some (.j z0)/\w.cell? ⟨b,off+j * 6+1,none⟩=some (.j z1)/\w.cell? ⟨b,off+j * 6+2,none⟩=some (u2)/\w.cell? ⟨b,off+j * 6+3,none⟩=some (u3)/\w.cell? ⟨b,off+j * 6+4,none⟩=some (.j z4)/\w.cell? ⟨b,off+j * 6+5,none⟩=some (u5)/\w.frozen? ⟨b,off+j * 6,none⟩=false/\w.frozen? ⟨b,off+j * 6+1,none⟩=false/\w.frozen? ⟨b,off+j * 6+2,none⟩=false/\w.frozen? ⟨b,off+j * 6+3,none⟩=false/\w.frozen? ⟨b,off+j * 6+4,none⟩=false/\w.frozen? ⟨b,off+j * 6+5,none⟩=false/\SL lo n w k 1 u2/\SL lo n w k 1 u3/\SL lo n w k 1 u5/\lo<=b/\b<lo+n/\w.heap[b]? = some (.cells cur e mk)/\G9 e=6/\off % 6=0:=by
 obtain ⟨p',J_,ek,e1,k1,_,k5⟩:=h
 cases e1
 rcases k5 with h0|⟨q,e2,_,q3,q4,⟨cur,e',mk,q5,q6,q7,q8,q9⟩,ln⟩
 ·omega
 cases e2
 have bB:off+j * 6+5<cur.size:=by
  have:(j+1) * 6<=cap * 6:=lT _ oM;simp only at q9;omega
 obtain ⟨u0,c0,z0,rfl⟩:=ln j 0 .int hj rfl;obtain ⟨u1,c1,z1,rfl⟩:=ln j 1 .int hj rfl;obtain ⟨u2,c2,s2⟩:=ln j 2 (.sl 1) hj rfl;obtain ⟨u3,c3,s3⟩:=ln j 3 (.sl 1) hj rfl;obtain ⟨u4,c4,z4,rfl⟩:=ln j 4 .int hj rfl;obtain ⟨u5,c5,s5⟩:=ln j 5 (.sl 1) hj rfl;exact ⟨z0,z1,u2,u3,z4,u5,cur,e',mk,c0,c1,c2,c3,c4,c5,bo q5 q6 oM,bo q5 q6 oM,bo q5 q6 oM,bo q5 q6 oM,bo q5 q6 oM,bo q5 q6 oM,s2,s3,s5,q3,q4,q5,q7,q8⟩
theorem ac3 {lo n k:Nat} {w:World} {b off len cap j:Nat} (h:SL lo n w (k+1) 18 (.slice (some ⟨b,off,none⟩) len cap)) (hj:j<len) :
  ∃ (z0:Int) (z1:Int) (z2:Int) (z3:Int) (z4:Int) (z5:Int) (u6:Value) (z7:Int) (z8:Int) (u9:Value) (R4:Value) (KP:Int) (KQ:Int) (R5:Value) (R6:Value) (KR:Int) (u16:Value) (R7:Value) (cur:Array Value) (e:TypeId) (mk:Nat×Nat),w.cell? ⟨b,off+j * 18,none⟩=some (.j z0)/\w.cell? ⟨b,off+j * 18+1,none⟩=some (.j z1)/\w.cell? ⟨b,off+j * 18+2,none⟩=some (.j z2)/\w.cell? ⟨b,off+j * 18+3,none⟩=some (.j z3)/\w.cell? ⟨b,off+j * 18+4,none⟩=some (.j z4)/\w.cell? ⟨b,off+j * 18+5,none⟩=some (.j z5)/\w.cell? ⟨b,off+j * 18+6,none⟩=some (u6)/\w.cell? ⟨b,off+j * 18+7,none⟩=some (.j z7)/\w.cell? ⟨b,off+j * 18+8,none⟩=some (.j z8)/\w.cell? ⟨b,off+j * 18+9,none⟩=some (u9)/\w.cell? ⟨b,off+j * 18+10,none⟩=some (R4)/\w.cell? ⟨b,off+j * 18+11,none⟩=some (.j KP)/\w.cell? ⟨b,off+j * 18+12,none⟩=some (.j KQ)/\w.cell? ⟨b,off+j * 18+13,none⟩=some (R5)/\w.cell? ⟨b,off+j * 18+14,none⟩=some (R6)/\w.cell? ⟨b,off+j * 18+15,none⟩=some (.j KR)/\w.cell? ⟨b,off+j * 18+16,none⟩=some (u16)/\w.cell? ⟨b,off+j * 18+17,none⟩=some (R7)/\w.frozen? ⟨b,off+j * 18,none⟩=false/\w.frozen? ⟨b,off+j * 18+1,none⟩=false/\w.frozen? ⟨b,off+j * 18+2,none⟩=false/\w.frozen? ⟨b,off+j * 18+3,none⟩=false/\w.frozen? ⟨b,off+j * 18+4,none⟩=false/\w.frozen? ⟨b,off+j * 18+5,none⟩=false/\w.frozen? ⟨b,off+j * 18+6,none⟩=false/\w.frozen? ⟨b,off+j * 18+7,none⟩=false/\w.frozen? ⟨b,off+j * 18+8,none⟩=false/\w.frozen? ⟨b,off+j * 18+9,none⟩=false/\w.frozen? ⟨b,off+j * 18+10,none⟩=false/\w.frozen? ⟨b,off+j * 18+11,none⟩=false/\w.frozen? ⟨b,off+j * 18+12,none⟩=false/\w.frozen? ⟨b,off+j * 18+13,none⟩=false/\w.frozen? ⟨b,off+j * 18+14,none⟩=false/\w.frozen? ⟨b,off+j * 18+15,none⟩=false/\w.frozen? ⟨b,off+j * 18+16,none⟩=false/\w.frozen? ⟨b,off+j * 18+17,none⟩=false/\SL lo n w k 4 u6/\SL lo n w k 1 u9/\SL lo n w k 1 R4/\SL lo n w k 1 R5/\SL lo n w k 1 R6/\SL lo n w k 1 u16/\SL lo n w k 1 R7/\lo<=b/\b<lo+n/\w.heap[b]? = some (.cells cur e mk)/\G9 e=18/\off % 18=0:=by
 obtain ⟨p',J_,ek,e1,k1,_,k5⟩:=h
 cases e1
 rcases k5 with h0|⟨q,e2,_,q3,q4,⟨cur,e',mk,q5,q6,q7,q8,q9⟩,ln⟩
 ·omega
 cases e2
 have bB:off+j * 18+17<cur.size:=by
  have:(j+1) * 18<=cap * 18:=lT _ oM;simp only at q9;omega
 obtain ⟨u0,c0,z0,rfl⟩:=ln j 0 .int hj rfl;obtain ⟨u1,c1,z1,rfl⟩:=ln j 1 .int hj rfl;obtain ⟨u2,c2,z2,rfl⟩:=ln j 2 .int hj rfl;obtain ⟨u3,c3,z3,rfl⟩:=ln j 3 .int hj rfl;obtain ⟨u4,c4,z4,rfl⟩:=ln j 4 .int hj rfl;obtain ⟨u5,c5,z5,rfl⟩:=ln j 5 .int hj rfl;obtain ⟨u6,c6,s6⟩:=ln j 6 (.sl 4) hj rfl;obtain ⟨u7,c7,z7,rfl⟩:=ln j 7 .int hj rfl;obtain ⟨u8,c8,z8,rfl⟩:=ln j 8 .int hj rfl;obtain ⟨u9,c9,s9⟩:=ln j 9 (.sl 1) hj rfl;obtain ⟨R4,QX,s10⟩:=ln j 10 (.sl 1) hj rfl;obtain ⟨u11,QY,KP,rfl⟩:=ln j 11 .int hj rfl;obtain ⟨u12,YW,KQ,rfl⟩:=ln j 12 .int hj rfl;obtain ⟨R5,YX,s13⟩:=ln j 13 (.sl 1) hj rfl;obtain ⟨R6,QZ,s14⟩:=ln j 14 (.sl 1) hj rfl;obtain ⟨u15,Q0,KR,rfl⟩:=ln j 15 .int hj rfl;obtain ⟨u16,YY,s16⟩:=ln j 16 (.sl 1) hj rfl;obtain ⟨R7,YZ,s17⟩:=ln j 17 (.sl 1) hj rfl;exact ⟨z0,z1,z2,z3,z4,z5,u6,z7,z8,u9,R4,KP,KQ,R5,R6,KR,u16,R7,cur,e',mk,c0,c1,c2,c3,c4,c5,c6,c7,c8,c9,QX,QY,YW,YX,QZ,Q0,YY,YZ,bo q5 q6 oM,bo q5 q6 oM,bo q5 q6 oM,bo q5 q6 oM,bo q5 q6 oM,bo q5 q6 oM,bo q5 q6 oM,bo q5 q6 oM,bo q5 q6 oM,bo q5 q6 oM,bo q5 q6 oM,bo q5 q6 oM,bo q5 q6 oM,bo q5 q6 oM,bo q5 q6 oM,bo q5 q6 oM,bo q5 q6 oM,bo q5 q6 oM,s6,s9,s10,s13,s14,s16,s17,q3,q4,q5,q7,q8⟩
theorem Y0 {lo n k:Nat} {w:World} {b off len cap j:Nat} (h:SL lo n w (k+1) 18 (.slice (some ⟨b,off,none⟩) len cap)) (hj:j<len) :
  ∃ (u6:Value),w.cell? ⟨b,off+j * 18+6,none⟩=some (u6)/\SL lo n w k 4 u6:=by
 obtain ⟨p',J_,ek,e1,k1,_,k5⟩:=h
 cases e1
 rcases k5 with h0|⟨q,e2,_,q3,q4,⟨cur,e',mk,q5,q6,q7,q8,q9⟩,ln⟩
 ·omega
 cases e2
 have bB:off+j * 18+17<cur.size:=by
  have:(j+1) * 18<=cap * 18:=lT _ oM;simp only at q9;omega
 obtain ⟨u6,c6,s6⟩:=ln j 6 (.sl 4) hj rfl;exact ⟨u6,c6,s6⟩
theorem Y1 {lo n k:Nat} {w:World} {b off len cap j:Nat} (h:SL lo n w (k+1) 18 (.slice (some ⟨b,off,none⟩) len cap)) (hj:j<len) :
  ∃ (z7:Int) (z8:Int) (u9:Value) (R4:Value),w.cell? ⟨b,off+j * 18+7,none⟩=some (.j z7)/\w.cell? ⟨b,off+j * 18+8,none⟩=some (.j z8)/\w.cell? ⟨b,off+j * 18+9,none⟩=some (u9)/\w.cell? ⟨b,off+j * 18+10,none⟩=some (R4)/\SL lo n w k 1 u9/\SL lo n w k 1 R4:=by
 obtain ⟨p',J_,ek,e1,k1,_,k5⟩:=h
 cases e1
 rcases k5 with h0|⟨q,e2,_,q3,q4,⟨cur,e',mk,q5,q6,q7,q8,q9⟩,ln⟩
 ·omega
 cases e2
 have bB:off+j * 18+17<cur.size:=by
  have:(j+1) * 18<=cap * 18:=lT _ oM;simp only at q9;omega
 obtain ⟨u7,c7,z7,rfl⟩:=ln j 7 .int hj rfl;obtain ⟨u8,c8,z8,rfl⟩:=ln j 8 .int hj rfl;obtain ⟨u9,c9,s9⟩:=ln j 9 (.sl 1) hj rfl;obtain ⟨R4,QX,s10⟩:=ln j 10 (.sl 1) hj rfl;exact ⟨z7,z8,u9,R4,c7,c8,c9,QX,s9,s10⟩
theorem Y2 {lo n k:Nat} {w:World} {b off len cap j:Nat} (h:SL lo n w (k+1) 18 (.slice (some ⟨b,off,none⟩) len cap)) (hj:j<len) :
  ∃ (KP:Int) (KQ:Int) (R5:Value) (R6:Value) (KR:Int) (u16:Value),w.cell? ⟨b,off+j * 18+11,none⟩=some (.j KP)/\w.cell? ⟨b,off+j * 18+12,none⟩=some (.j KQ)/\w.cell? ⟨b,off+j * 18+13,none⟩=some (R5)/\w.cell? ⟨b,off+j * 18+14,none⟩=some (R6)/\w.cell? ⟨b,off+j * 18+15,none⟩=some (.j KR)/\w.cell? ⟨b,off+j * 18+16,none⟩=some (u16)/\SL lo n w k 1 R5/\SL lo n w k 1 R6/\SL lo n w k 1 u16:=by
 obtain ⟨p',J_,ek,e1,k1,_,k5⟩:=h
 cases e1
 rcases k5 with h0|⟨q,e2,_,q3,q4,⟨cur,e',mk,q5,q6,q7,q8,q9⟩,ln⟩
 ·omega
 cases e2
 have bB:off+j * 18+17<cur.size:=by
  have:(j+1) * 18<=cap * 18:=lT _ oM;simp only at q9;omega
 obtain ⟨u11,QY,KP,rfl⟩:=ln j 11 .int hj rfl;obtain ⟨u12,YW,KQ,rfl⟩:=ln j 12 .int hj rfl;obtain ⟨R5,YX,s13⟩:=ln j 13 (.sl 1) hj rfl;obtain ⟨R6,QZ,s14⟩:=ln j 14 (.sl 1) hj rfl;obtain ⟨u15,Q0,KR,rfl⟩:=ln j 15 .int hj rfl;obtain ⟨u16,YY,s16⟩:=ln j 16 (.sl 1) hj rfl;exact ⟨KP,KQ,R5,R6,KR,u16,QY,YW,YX,QZ,Q0,YY,s13,s14,s16⟩
theorem Y3 {lo n k:Nat} {w:World} {b off len cap j:Nat} (h:SL lo n w (k+1) 18 (.slice (some ⟨b,off,none⟩) len cap)) (hj:j<len) :
  ∃ (R7:Value),w.cell? ⟨b,off+j * 18+17,none⟩=some (R7)/\SL lo n w k 1 R7:=by
 obtain ⟨p',J_,ek,e1,k1,_,k5⟩:=h
 cases e1
 rcases k5 with h0|⟨q,e2,_,q3,q4,⟨cur,e',mk,q5,q6,q7,q8,q9⟩,ln⟩
 ·omega
 cases e2
 have bB:off+j * 18+17<cur.size:=by
  have:(j+1) * 18<=cap * 18:=lT _ oM;simp only at q9;omega
 obtain ⟨R7,YZ,s17⟩:=ln j 17 (.sl 1) hj rfl;exact ⟨R7,YZ,s17⟩
theorem agx:(prog.info? 106).map (λi=>(i.zero,i.size,i.bytes))=some (some (.agg #[.j 0,.j 0,.j 0]),3,24):=kR
set_option maxRecDepth 100000 in
theorem VI (lo n k:Nat) (w:World) (v:Value) (hv:SL lo n w (k+1) 3 v) (jl:∀ b,lo<=b->b<lo+n->b<w.heap.size) :
  Calls prog 122 #[v] w λe w'=>e = .returned (.tuple #[])/\aY lo n w w':=by
 obtain ⟨p,len,cap,rfl,k1,⟨k2,k3⟩,k4⟩:=id hv
 go_enter func122,ntmps122
 go_wp2
 go_loopw [2] (λi wr=>∃ j:Nat,j<=len/\i = .j j/\aY lo n w wr)
  (λi _=>len - (intOf i).toNat)
 case atStart=>exact ⟨0,br _,rfl,aY.refl _ _ _⟩
 case round =>
  obtain ⟨j,hj,rfl,hS⟩:=hrel;have oz:=hS.sl _ _ _ hv;have jg:∀ b,lo<=b->b<lo+n->b<wr.heap.size:=λb h1 h2=>kO (jl b h1 h2) hS.size;by_cases lA:j<len
  ·rcases k4 with rfl|⟨⟨b,off,sp⟩,rfl,rfl,_⟩
   ·omega
   clear hv;obtain ⟨z0,z1,z2,cur,e',mk,c0,c1,c2,f0,f1,f2,q3,q4,q5,q7,q8⟩:=agu oz lA
   go_wp2
   exact ⟨⟨j+1,oM,by go_num,hS.trans (aY.elem q3 q4 q5 q7 q8 [.j (-9),.j 0,.j 0] dC (de ⟨_,rfl⟩ (de ⟨_,rfl⟩ (de ⟨_,rfl⟩ Kb))))⟩,by simp [intOf];omega⟩
  ·obtain rfl:j=len:=oM;obtain ⟨i0,hi,vr,pB,oA⟩:=info_parts agx
   go_wp2_with (at_builtin;refine ez _ rfl (.tmp 13) (.tmp 15) 25 rfl 106 i0 (.agg #[.j 0,.j 0,.j 0]) 3 24 Tryz.underlying25 hi vr pB oA rfl dC (lo:=lo) (n:=n) (k:=k+0) (v := .slice p j cap) ?sl rfl ⟨wr.heap.size,0,none⟩ 1 [.j 0,.j 0,.j 0] rfl rfl ?c1 ?c2 (de ⟨_,rfl⟩ (de ⟨_,rfl⟩ (de ⟨_,rfl⟩ Kb)):zi (Hn 3) _) dC ?bl ?go)
   case sl=>exact (aY.keeps jg (aO.alloc wr _)).sl _ _ _ oz
   case c1=>intro j u hj;rw [pg];simpa using hj
   case c2=>intro u hu;simp at hu;rcases hu with rfl|rfl|rfl<;>rfl
   case bl=>exact λb h1 h2=>kO (jg b h1 h2) (aO.alloc wr _).size
   case go =>
    intro v' w' tA _
    go_wp2
    go_end0
    exact ⟨rfl,(hS.trans (aY.keeps jg (aO.alloc wr _))).trans tA⟩
theorem agy:(prog.info? 180).map (λi=>(i.zero,i.size,i.bytes))=some (some (.agg #[.j 0,.j 0,.string ⟨#[]⟩,.string ⟨#[]⟩]),4,48):=kR
set_option maxRecDepth 100000 in
theorem VJ (lo n k:Nat) (w:World) (v:Value) (hv:SL lo n w (k+1) 4 v) (jl:∀ b,lo<=b->b<lo+n->b<w.heap.size) :
  Calls prog 120 #[v] w λe w'=>e = .returned (.tuple #[])/\aY lo n w w':=by
 obtain ⟨p,len,cap,rfl,k1,⟨k2,k3⟩,k4⟩:=id hv
 go_enter func120,ntmps120
 go_wp2
 go_loopw [2] (λi wr=>∃ j:Nat,j<=len/\i = .j j/\aY lo n w wr)
  (λi _=>len - (intOf i).toNat)
 case atStart=>exact ⟨0,br _,rfl,aY.refl _ _ _⟩
 case round =>
  obtain ⟨j,hj,rfl,hS⟩:=hrel;have oz:=hS.sl _ _ _ hv;have jg:∀ b,lo<=b->b<lo+n->b<wr.heap.size:=λb h1 h2=>kO (jl b h1 h2) hS.size;by_cases lA:j<len
  ·rcases k4 with rfl|⟨⟨b,off,sp⟩,rfl,rfl,_⟩
   ·omega
   clear hv;obtain ⟨z0,z1,t2,t3,cur,e',mk,c0,c1,c2,c3,f0,f1,f2,f3,q3,q4,q5,q7,q8⟩:=agv oz lA
   go_wp2
   exact ⟨⟨j+1,oM,by go_num,hS.trans (aY.elem q3 q4 q5 q7 q8 [.j (-9),.j 0,.string ⟨#[]⟩,.string ⟨#[]⟩] dC (de ⟨_,rfl⟩ (de ⟨_,rfl⟩ (de ⟨_,rfl⟩ (de ⟨_,rfl⟩ Kb)))))⟩,by simp [intOf];omega⟩
  ·obtain rfl:j=len:=oM;obtain ⟨i0,hi,vr,pB,oA⟩:=info_parts agy
   go_wp2_with (at_builtin;refine ez _ rfl (.tmp 13) (.tmp 15) 43 rfl 180 i0 (.agg #[.j 0,.j 0,.string ⟨#[]⟩,.string ⟨#[]⟩]) 4 48 Tryz.underlying43 hi vr pB oA rfl dC (lo:=lo) (n:=n) (k:=k+0) (v := .slice p j cap) ?sl rfl ⟨wr.heap.size,0,none⟩ 1 [.j 0,.j 0,.string ⟨#[]⟩,.string ⟨#[]⟩] rfl rfl ?c1 ?c2 (de ⟨_,rfl⟩ (de ⟨_,rfl⟩ (de ⟨_,rfl⟩ (de ⟨_,rfl⟩ Kb))):zi (Hn 4) _) dC ?bl ?go)
   case sl=>exact (aY.keeps jg (aO.alloc wr _)).sl _ _ _ oz
   case c1=>intro j u hj;rw [pg];simpa using hj
   case c2=>intro u hu;simp at hu;rcases hu with rfl|rfl|rfl|rfl<;>rfl
   case bl=>exact λb h1 h2=>kO (jg b h1 h2) (aO.alloc wr _).size
   case go =>
    intro v' w' tA _
    go_wp2
    go_end0
    exact ⟨rfl,(hS.trans (aY.keeps jg (aO.alloc wr _))).trans tA⟩
theorem agA:(prog.info? 47).map (λi=>(i.zero,i.size,i.bytes))=some (some (.agg #[.j 0,.j 0,.slice none 0 0,.slice none 0 0,.j 0,.slice none 0 0]),6,96):=kR
set_option maxRecDepth 100000 in
theorem Kc (lo n k:Nat) (w:World) (v:Value) (hv:SL lo n w (k+2) 6 v) (jl:∀ b,lo<=b->b<lo+n->b<w.heap.size) :
  Calls prog 123 #[v] w λe w'=>e = .returned (.tuple #[])/\aY lo n w w':=by
 obtain ⟨p,len,cap,rfl,k1,⟨k2,k3⟩,k4⟩:=id hv
 go_enter func123,ntmps123
 go_wp2
 go_loopw [2] (λi wr=>∃ j:Nat,j<=len/\i = .j j/\aY lo n w wr)
  (λi _=>len - (intOf i).toNat)
 case atStart=>exact ⟨0,br _,rfl,aY.refl _ _ _⟩
 case round =>
  obtain ⟨j,hj,rfl,hS⟩:=hrel;have oz:=hS.sl _ _ _ hv;have jg:∀ b,lo<=b->b<lo+n->b<wr.heap.size:=λb h1 h2=>kO (jl b h1 h2) hS.size;by_cases lA:j<len
  ·rcases k4 with rfl|⟨⟨b,off,sp⟩,rfl,rfl,_⟩
   ·omega
   clear hv;obtain ⟨z0,z1,u2,u3,z4,u5,cur,e',mk,c0,c1,c2,c3,c4,c5,f0,f1,f2,f3,f4,f5,s2,s3,s5,q3,q4,q5,q7,q8⟩:=aaG oz lA;clear q3 q4 q5 q7 q8 f0 f1 f2 f3 f4 f5
   go_wp2_with (go_at_call 121;(with_reducible refine (GK lo n k _ z0 z1 z4 u2 u3 u5 s2 s3 s5 jg).mono ?_);rintro e w1 ⟨rfl,ub⟩;obtain ⟨zb0,zb1,ub2,ub3,zb4,ub5,cur,e',mk,cb0,cb1,cb2,cb3,cb4,cb5,fb0,fb1,fb2,fb3,fb4,fb5,sb2,sb3,sb5,q3,q4,q5,q7,q8⟩:=aaG (ub.sl _ _ _ oz) lA)
   exact ⟨⟨j+1,oM,by go_num,(hS.trans ub).trans (aY.elem q3 q4 q5 q7 q8 [.j 0,.j 0,.slice none 0 0,.slice none 0 0,.j (-9),.slice none 0 0] dC (de ⟨_,rfl⟩ (de ⟨_,rfl⟩ (de rfl (de rfl (de ⟨_,rfl⟩ (de rfl Kb)))))))⟩,by simp [intOf];omega⟩
  ·obtain rfl:j=len:=oM;obtain ⟨i0,hi,vr,pB,oA⟩:=info_parts agA
   go_wp2_with (at_builtin;refine ez _ rfl (.tmp 18) (.tmp 20) 26 rfl 47 i0 (.agg #[.j 0,.j 0,.slice none 0 0,.slice none 0 0,.j 0,.slice none 0 0]) 6 96 Tryz.underlying26 hi vr pB oA rfl dC (lo:=lo) (n:=n) (k:=k+1) (v := .slice p j cap) ?sl rfl ⟨wr.heap.size,0,none⟩ 1 [.j 0,.j 0,.slice none 0 0,.slice none 0 0,.j 0,.slice none 0 0] rfl rfl ?c1 ?c2 (de ⟨_,rfl⟩ (de ⟨_,rfl⟩ (de rfl (de rfl (de ⟨_,rfl⟩ (de rfl Kb))))):zi (Hn 6) _) dC ?bl ?go)
   case sl=>exact (aY.keeps jg (aO.alloc wr _)).sl _ _ _ oz
   case c1=>intro j u hj;rw [pg];simpa using hj
   case c2=>intro u hu;simp at hu;rcases hu with rfl|rfl|rfl|rfl|rfl|rfl<;>rfl
   case bl=>exact λb h1 h2=>kO (jg b h1 h2) (aO.alloc wr _).size
   case go =>
    intro v' w' tA _
    go_wp2
    go_end0
    exact ⟨rfl,(hS.trans (aY.keeps jg (aO.alloc wr _))).trans tA⟩
end Go.Proofs.YtolkmjfkkkiboaaGreat
open Go Go.Claim Go.Proofs Tryz
namespace Go.Proofs.YtolkmjfkkkiboaaGreat
open Go.Ab Go.RowKit Go.MapKept Tryz
attribute [local irreducible] ay AW cw eA eo bL
theorem VK:(prog.info? 49).map (λi=>(i.zero,i.size,i.bytes))=some (some (.agg #[.j 0,.j 0,.j 0,.j 0,.j 0,.j 0,.slice none 0 0,.j 0,.j 0,.slice none 0 0,.slice none 0 0,.j 0,.j 0,.slice none 0 0,.slice none 0 0,.j 0,.slice none 0 0,.slice none 0 0]),18,256):=kR
set_option maxRecDepth 100000 in
theorem Kd (lo n k:Nat) (w:World) (v:Value) (hv:SL lo n w (k+3) 18 v) (jl:∀ b,lo<=b->b<lo+n->b<w.heap.size) :
  Calls prog 60 #[v] w λe w'=>e = .returned (.tuple #[])/\aY lo n w w':=by
 obtain ⟨p,len,cap,rfl,k1,⟨k2,k3⟩,k4⟩:=id hv
 go_enter func60,ntmps60
 go_wp2
 go_loopw [2] (λi wr=>∃ j:Nat,j<=len/\i = .j j/\aY lo n w wr)
  (λi _=>len - (intOf i).toNat)
 case atStart=>exact ⟨0,br _,rfl,aY.refl _ _ _⟩
 case round =>
  obtain ⟨j,hj,rfl,hS⟩:=hrel;have oz:=hS.sl _ _ _ hv;have jg:∀ b,lo<=b->b<lo+n->b<wr.heap.size:=λb h1 h2=>kO (jl b h1 h2) hS.size;by_cases lA:j<len
  ·rcases k4 with rfl|⟨⟨b,off,sp⟩,rfl,rfl,_⟩
   ·omega
   clear hv;obtain ⟨u6,c6,s6⟩:=Y0 oz lA
   go_wp2_with (go_at_call 120;(with_reducible refine (VJ lo n (k+1) _ u6 s6 jg).mono ?_);rintro e w1 ⟨rfl,ub⟩;have MQ:∀ b,lo<=b->b<lo+n->b<w1.heap.size:=λb h1 h2=>kO (jg b h1 h2) ub.size;clear c6;obtain ⟨z7,z8,u9,R4,c7,c8,c9,QX,s9,s10⟩:=Y1 (ub.sl _ _ _ oz) lA)
   go_wp2_with (go_at_call 47;(with_reducible refine (sZ lo n (k+1) _ z7 z8 u9 R4 s9 s10 MQ).mono ?_);rintro e w2 ⟨rfl,tA⟩;have Q1:∀ b,lo<=b->b<lo+n->b<w2.heap.size:=λb h1 h2=>kO (MQ b h1 h2) tA.size;clear c7 c8 c9 QX;obtain ⟨KP,KQ,R5,R6,KR,u16,QY,YW,YX,QZ,Q0,YY,s13,s14,s16⟩:=Y2 ((ub.trans tA).sl _ _ _ oz) lA)
   go_wp2_with (go_at_call 121;(with_reducible refine (GK lo n (k+1) _ KP KQ KR R5 R6 u16 s13 s14 s16 Q1).mono ?_);rintro e w3 ⟨rfl,Q2⟩;have ajp:∀ b,lo<=b->b<lo+n->b<w3.heap.size:=λb h1 h2=>kO (Q1 b h1 h2) Q2.size;clear QY YW YX QZ Q0 YY;obtain ⟨R7,YZ,s17⟩:=Y3 (((ub.trans tA).trans Q2).sl _ _ _ oz) lA)
   go_wp2_with (go_at_call 50;(with_reducible refine (je lo n (k+1) _ R7 s17 ajp).mono ?_);rintro e w4 ⟨rfl,Y4⟩;clear YZ;obtain ⟨z0,z1,z2,z3,z4,z5,u6,z7,z8,u9,R4,KP,KQ,R5,R6,KR,u16,R7,cur,e',mk,c0,c1,c2,c3,c4,c5,c6,c7,c8,c9,QX,QY,YW,YX,QZ,Q0,YY,YZ,f0,f1,f2,f3,f4,f5,f6,f7,f8,f9,f10,f11,f12,f13,f14,f15,f16,f17,s6,s9,s10,s13,s14,s16,s17,q3,q4,q5,q7,q8⟩:=ac3 ((((ub.trans tA).trans Q2).trans Y4).sl _ _ _ oz) lA)
   exact ⟨⟨j+1,oM,by go_num,((((hS.trans ub).trans tA).trans Q2).trans Y4).trans (aY.elem q3 q4 q5 q7 q8 [.j (-9),.j 0,.j 0,.j 0,.j 0,.j 0,.slice none 0 0,.j 0,.j 0,.slice none 0 0,.slice none 0 0,.j 0,.j 0,.slice none 0 0,.slice none 0 0,.j 0,.slice none 0 0,.slice none 0 0] dC (de ⟨_,rfl⟩ (de ⟨_,rfl⟩ (de ⟨_,rfl⟩ (de ⟨_,rfl⟩ (de ⟨_,rfl⟩ (de ⟨_,rfl⟩ (de rfl (de ⟨_,rfl⟩ (de ⟨_,rfl⟩ (de rfl (de rfl (de ⟨_,rfl⟩ (de ⟨_,rfl⟩ (de rfl (de rfl (de ⟨_,rfl⟩ (de rfl (de rfl Kb)))))))))))))))))))⟩,by simp [intOf];omega⟩
  ·obtain rfl:j=len:=oM;obtain ⟨i0,hi,vr,pB,oA⟩:=info_parts VK
   go_wp2_with (at_builtin;refine ez _ rfl (.tmp 38) (.tmp 40) 71 rfl 49 i0 (.agg #[.j 0,.j 0,.j 0,.j 0,.j 0,.j 0,.slice none 0 0,.j 0,.j 0,.slice none 0 0,.slice none 0 0,.j 0,.j 0,.slice none 0 0,.slice none 0 0,.j 0,.slice none 0 0,.slice none 0 0]) 18 256 Tryz.underlying71 hi vr pB oA rfl dC (lo:=lo) (n:=n) (k:=k+2) (v := .slice p j cap) ?sl rfl ⟨wr.heap.size,0,none⟩ 1 [.j 0,.j 0,.j 0,.j 0,.j 0,.j 0,.slice none 0 0,.j 0,.j 0,.slice none 0 0,.slice none 0 0,.j 0,.j 0,.slice none 0 0,.slice none 0 0,.j 0,.slice none 0 0,.slice none 0 0] rfl rfl ?c1 ?c2 (de ⟨_,rfl⟩ (de ⟨_,rfl⟩ (de ⟨_,rfl⟩ (de ⟨_,rfl⟩ (de ⟨_,rfl⟩ (de ⟨_,rfl⟩ (de rfl (de ⟨_,rfl⟩ (de ⟨_,rfl⟩ (de rfl (de rfl (de ⟨_,rfl⟩ (de ⟨_,rfl⟩ (de rfl (de rfl (de ⟨_,rfl⟩ (de rfl (de rfl Kb))))))))))))))))):zi (Hn 18) _) dC ?bl ?go)
   case sl=>exact (aY.keeps jg (aO.alloc wr _)).sl _ _ _ oz
   case c1=>intro j u hj;rw [pg];simpa using hj
   case c2=>intro u hu;simp at hu;rcases hu with rfl|rfl|rfl|rfl|rfl|rfl|rfl|rfl|rfl|rfl|rfl|rfl|rfl|rfl|rfl|rfl|rfl|rfl<;>rfl
   case bl=>exact λb h1 h2=>kO (jg b h1 h2) (aO.alloc wr _).size
   case go =>
    intro v' w' tA _
    go_wp2
    go_end0
    exact ⟨rfl,(hS.trans (aY.keeps jg (aO.alloc wr _))).trans tA⟩
end Go.Proofs.YtolkmjfkkkiboaaGreat
open Go Go.Claim Go.Proofs Tryz
namespace Go.Proofs.YtolkmjfkkkiboaaGreat
open Go.Ab Go.RowKit Go.MapKept Tryz
attribute [local irreducible] ay AW cw eA eo bL
set_option maxRecDepth 100000 in
theorem MR (lo n k:Nat) (w:World) (i0 i1 i2 i3 i4 i5 i6 i9 i12 i13:Int) (v7 v8 v10 v11 v14 v15:Value) (h7:SL lo n w (k+2) 1 v7) (h8:SL lo n w (k+2) 1 v8) (Ke:SL lo n w (k+2) 1 v10) (WO:SL lo n w (k+2) 3 v11) (Q3:SL lo n w (k+2) 6 v14) (h15:SL lo n w (k+2) 6 v15) (jl:∀ b,lo<=b->b<lo+n->b<w.heap.size) :
  Calls prog 62 #[.agg #[.j i0,.j i1,.j i2,.j i3,.j i4,.j i5,.j i6,v7,v8,.j i9,v10,v11,.j i12,.j i13,v14,v15]] w λe w'=>e = .returned (.tuple #[])/\aY lo n w w':=by
 obtain ⟨p7,l7,c7,rfl⟩:=dO h7;obtain ⟨p8,l8,c8,rfl⟩:=dO h8;obtain ⟨Oa,l10,QX,rfl⟩:=dO Ke;obtain ⟨p11,l11,QY,rfl⟩:=dO WO;obtain ⟨p14,l14,QZ,rfl⟩:=dO Q3;obtain ⟨p15,l15,Q0,rfl⟩:=dO h15;obtain ⟨cs,ck⟩:∃ cs:Array Value,cs = #[.j i0,.j i1,.j i2,.j i3,.j i4,.j i5,.j i6,.slice p7 l7 c7,.slice p8 l8 c8,.j i9,.slice Oa l10 QX,.slice p11 l11 QY,.j i12,.j i13,.slice p14 l14 QZ,.slice p15 l15 Q0]:=⟨_,rfl⟩;have hA:=aY.keeps jl (aO.alloc w (.cells cs 30));have Ka:∀ b,lo<=b->b<lo+n->b<(w.alloc (.cells cs 30)).heap.size:=λb g1 g2=>kO (jl b g1 g2) hA.size;have d10:(w.alloc (.cells cs 30)).cell? ⟨w.heap.size,10,none⟩=some (.slice Oa l10 QX):=by rw [cell_of_row _ _ 10 _ _ _ (heap_alloc_new w _),ck];rfl
 have d11:(w.alloc (.cells cs 30)).cell? ⟨w.heap.size,11,none⟩=some (.slice p11 l11 QY):=by rw [cell_of_row _ _ 11 _ _ _ (heap_alloc_new w _),ck];rfl
 have d14:(w.alloc (.cells cs 30)).cell? ⟨w.heap.size,14,none⟩=some (.slice p14 l14 QZ):=by rw [cell_of_row _ _ 14 _ _ _ (heap_alloc_new w _),ck];rfl
 have d15:(w.alloc (.cells cs 30)).cell? ⟨w.heap.size,15,none⟩=some (.slice p15 l15 Q0):=by rw [cell_of_row _ _ 15 _ _ _ (heap_alloc_new w _),ck];rfl
 have jN:¬(lo<=w.heap.size/\w.heap.size<lo+n):=wT jl (eQ _);replace h7:=hA.sl _ _ _ h7;replace h8:=hA.sl _ _ _ h8;replace Ke:=hA.sl _ _ _ Ke;replace WO:=hA.sl _ _ _ WO;replace Q3:=hA.sl _ _ _ Q3;replace h15:=hA.sl _ _ _ h15;subst ck
 go_enter func62,ntmps62
 go_wp2_with (go_at_call 47;(with_reducible refine (sZ lo n (k+1) _ i5 i6 (.slice p7 l7 c7) (.slice p8 l8 c8) h7 h8 Ka).mono ?_);rintro e w1 ⟨rfl,ub⟩;have MS:∀ b,lo<=b->b<lo+n->b<w1.heap.size:=λb g1 g2=>kO (Ka b g1 g2) ub.size;have e10:=aY.cellOf (a:=⟨w.heap.size,10,none⟩) ub jN d10)
 go_wp2_with (go_at_call 50;(with_reducible refine (je lo n (k+1) _ (.slice Oa l10 QX) (ub.sl _ _ _ Ke) MS).mono ?_);rintro e w2 ⟨rfl,tA⟩;clear e10;have jg:∀ b,lo<=b->b<lo+n->b<w2.heap.size:=λb g1 g2=>kO (MS b g1 g2) tA.size;have e11:=aY.cellOf (a:=⟨w.heap.size,11,none⟩) (ub.trans tA) jN d11)
 go_wp2_with (go_at_call 122;(with_reducible refine (VI lo n (k+1) _ (.slice p11 l11 QY) ((ub.trans tA).sl _ _ _ WO) jg).mono ?_);rintro e w3 ⟨rfl,Q2⟩;clear e11;have MQ:∀ b,lo<=b->b<lo+n->b<w3.heap.size:=λb g1 g2=>kO (jg b g1 g2) Q2.size;have e14:=aY.cellOf (a:=⟨w.heap.size,14,none⟩) ((ub.trans tA).trans Q2) jN d14)
 go_wp2_with (go_at_call 123;(with_reducible refine (Kc lo n k _ (.slice p14 l14 QZ) (((ub.trans tA).trans Q2).sl _ _ _ Q3) MQ).mono ?_);rintro e w4 ⟨rfl,Y4⟩;clear e14;have Q1:∀ b,lo<=b->b<lo+n->b<w4.heap.size:=λb g1 g2=>kO (MQ b g1 g2) Y4.size;have e15:=aY.cellOf (a:=⟨w.heap.size,15,none⟩) (((ub.trans tA).trans Q2).trans Y4) jN d15)
 go_wp2_with (go_at_call 123;(with_reducible refine (Kc lo n k _ (.slice p15 l15 Q0) ((((ub.trans tA).trans Q2).trans Y4).sl _ _ _ h15) Q1).mono ?_);rintro e w5 ⟨rfl,hS5⟩)
 go_end0
 exact ⟨rfl,hA.trans ((((ub.trans tA).trans Q2).trans Y4).trans hS5)⟩
attribute [local irreducible] SL
theorem Q4 (l:List Int) (h:l.length<=4294967296) (k:Nat):zq (k+1) 1 (.sl 1 (nums l)) := .inr ⟨_,rfl,by rw [nums_length];exact h,λcs ck=>by
 obtain ⟨x,_,rfl⟩:=px.1 ck;exact ⟨x,[],rfl,rfl⟩⟩
theorem fsV (l:List bb) (h:l.length<=4294967296) (k:Nat):zq (k+1) 3 (.sl 3 (ax l)) := .inr ⟨_,rfl,by rw [aV];exact h,λcs ck=>by
 obtain ⟨x,_,rfl⟩:=px.1 ck;exact ⟨x.round,_,rfl,x.af,_,rfl,x.ae,[],rfl,rfl⟩⟩
theorem fsT (l:List Tx) (h:l.length<=4294967296) (k:Nat):zq (k+1) 4 (.sl 4 (dr l)) := .inr ⟨_,rfl,by rw [dr,tg];exact h,λcs ck=>by
 obtain ⟨x,_,rfl⟩:=px.1 ck;exact ⟨x.oh,_,rfl,x.seq,_,rfl,x.key,_,rfl,x.val,[],rfl,rfl⟩⟩
structure Cert.iF (c:Cert):Prop where
 aE:c.aE.length<=4294967296
 ao:c.ao.length<=4294967296
 sigs:c.sigs.length<=4294967296
theorem fsC (l:List Cert) (h:l.length<=4294967296) (hc:∀ c∈l,c.iF) (k:Nat):zq (k+2) 6 (.sl 6 (ah l)) := .inr ⟨_,rfl,by rw [ak];exact h,λcs ck=>by
 obtain ⟨x,hx,rfl⟩:=px.1 ck;have hf:=hc x hx;exact ⟨x.af,_,rfl,x.round,_,rfl,_,_,rfl,Q4 x.aE hf.aE k,_,_,rfl,Q4 x.ao hf.ao k,x.ae,_,rfl,_,_,rfl,Q4 x.sigs hf.sigs k,rfl⟩⟩
structure aW.iF (m:aW):Prop where
 dX:m.dX.length<=4294967296
 head:m.head.iF
 cert:m.cert.iF
 aT:m.aT.length<=4294967296
theorem fsM (l:List aW) (h:l.length<=4294967296) (hc:∀ m∈l,m.iF):zq 3 18 (.sl 18 (bZ l)) := .inr ⟨_,rfl,by rw [jT];exact h,λcs ck=>by
 obtain ⟨x,hx,rfl⟩:=px.1 ck;have hf:=hc x hx;exact ⟨x.kind,_,rfl,x.src,_,rfl,x.dst,_,rfl,x.ae,_,rfl,x.ba,_,rfl,x.bn,_,rfl,_,_,rfl,fsT x.dX hf.dX 1,x.head.af,_,rfl,x.head.round,_,rfl,_,_,rfl,Q4 x.head.aE hf.head.aE 1,_,_,rfl,Q4 x.head.ao hf.head.ao 1,
  x.cert.af,_,rfl,x.cert.round,_,rfl,_,_,rfl,Q4 x.cert.aE hf.cert.aE 1,_,_,rfl,Q4 x.cert.ao hf.cert.ao 1,x.cert.ae,_,rfl,_,_,rfl,Q4 x.cert.sigs hf.cert.sigs 1,_,_,rfl,Q4 x.aT hf.aT 1,rfl⟩⟩
def Prim.ai (p:Prim) (i:Nat):AV := .agg [.k p.id,.k p.nodes,.k p.round,.k p.iq,.k p.said,.k p.aK.af,.k p.aK.round,.isl i (.sl 1 (nums p.aK.aE)),.isl i (.sl 1 (nums p.aK.ao)),.k p.dD,.isl i (.sl 1 (nums p.aL)),.isl i (.sl 3 (ax p.aA)),.k p.aq.nodes,.k p.aq.low,.isl i (.sl 6 (ah p.aq.aa)),.isl i (.sl 6 (ah p.late))]
structure Prim.iF (p:Prim):Prop where
 aE:p.aK.aE.length<=4294967296
 ao:p.aK.ao.length<=4294967296
 aL:p.aL.length<=4294967296
 aA:p.aA.length<=4294967296
 aq:p.aq.aa.length<=4294967296/\∀ c∈p.aq.aa,c.iF
 late:p.late.length<=4294967296/\∀ c∈p.late,c.iF
theorem s7 (p:Prim) (h:p.iF) (lo n:Nat) (ok:zp):zA 62 [p.ai 0] [.aN lo n ok] (pQ (.tup []) [.aN lo n false]):=by
 refine vZ λc E w vs jl hv=>?_;simp only [cD,Prim.ai] at hv;obtain ⟨u,dt,kQ,hu,rfl⟩:=hv;have hu0:=hu;simp only [VR] at hu;obtain ⟨us,rfl,yD⟩:=hu;simp only [eK] at yD;obtain ⟨a0,_,e,-,h0,a1,_,rfl,-,h1,a2,_,rfl,-,h2,a3,_,rfl,-,h3,a4,_,rfl,-,h4,a5,_,rfl,-,h5,a6,_,rfl,-,h6,a7,_,rfl,-,h7,a8,_,rfl,-,h8,a9,_,rfl,-,h9,a10,_,rfl,-,Ke,a11,_,rfl,-,WO,a12,_,rfl,-,h12,a13,_,rfl,-,h13,a14,_,rfl,-,Q3,a15,_,rfl,-,h15,rfl⟩:=yD;have hi:∀ {z:Int} {a:Value},VR (aj c.M0 E [.aN lo n ok] w) (.k z) a->a = .j z:=λ{z a} hz=>by simpa only [VR,VD] using hz
 have b0:=hi h0;have b1:=hi h1;have b2:=hi h2;have b3:=hi h3;have b4:=hi h4;have b5:=hi h5;have b6:=hi h6;have b9:=hi h9;have b12:=hi h12;have b13:=hi h13;subst b0 b1 b2 b3 b4 b5 b6 b9 b12 b13;have j7:vs = #[.agg #[.j p.id,.j p.nodes,.j p.round,.j p.iq,.j p.said,.j p.aK.af,.j p.aK.round,a7,a8,.j p.dD,a10,a11,.j p.aq.nodes,.j p.aq.low,a14,a15]]:=by
  rw [<-uX (xs:=vs),kQ,<-uX (xs:=us),e]
 rw [j7];exact MR lo n 1 w _ _ _ _ _ _ _ _ _ _ _ _ _ _ _ _ (uD (Q4 _ h.aE 2) h7) (uD (Q4 _ h.ao 2) h8) (uD (Q4 _ h.aL 2) Ke) (uD (fsV _ h.aA 2) WO) (uD (fsC _ h.aq.1 h.aq.2 1) Q3) (uD (fsC _ h.late.1 h.late.2 1) h15) jl
theorem EA (l:List aW) (h:l.length<=4294967296) (hl:∀ m∈l,m.iF) (lo n:Nat) (ok:zp):zA 60 [.isl 0 (.sl 18 (bZ l))] [.aN lo n ok] (pQ (.tup []) [.aN lo n false]):=by
 refine vZ λc E w vs jl hv=>?_;simp only [cD] at hv;obtain ⟨u,dt,kQ,hu,rfl⟩:=hv;have j7:vs = #[u]:=by rw [<-uX (xs:=vs),kQ]
 rw [j7];exact Kd lo n 0 w u (uD (fsM l h hl) hu) jl
def jt (l:List Int) (n:Int):List Int:=if n∈l then l else uL l n
def ft (l:List Int):List Int:=l.foldl jt []
theorem Cd (l:List Int) (d:Int):ft (l++[d])=jt (ft l) d:=by
 unfold ft;rw [List.foldl_append];rfl
theorem EB {l:List Int} {n x:Int}:x∈jt l n↔x∈l∨x=n:=by
 unfold jt;split
 ·rename_i h;exact ⟨.inl,λk=>k.elim id λe=>e▸h⟩
 ·exact Jw
theorem wU {l:List Int} {n:Int} (h:bq l):bq (jt l n):=by
 unfold jt;split
 ·exact h
 ·exact y8 h ‹_›
theorem EC (l:List Int) (n:Int):(jt l n).length<=l.length+1:=by
 unfold jt;split
 ·omega
 ·rw [Jz];omega
theorem sm:∀ (l a:List Int),bq a->bq (l.foldl jt a)/\∀ x,x∈l.foldl jt a↔x∈a∨x∈l
 | [],a,h=>⟨h,λx=>by simp⟩
 | d :: l,a,h=>by
   obtain ⟨h1,h2⟩:=sm l (jt a d) (wU h);refine ⟨h1,λx=>?_⟩;show x∈l.foldl jt (jt a d)↔_;rw [h2,EB,jy];constructor
   ·rintro ((h|h)|h)
    ·exact .inl h
    ·exact .inr (.inl h)
    ·exact .inr (.inr h)
   ·rintro (h|h|h)
    ·exact .inl (.inl h)
    ·exact .inl (.inr h)
    ·exact .inr h
theorem mm (l:List Int):bq (ft l):=(sm l [] .nil).1
theorem ED (l:List Int) (x:Int):x∈ft l↔x∈l:=by
 rw [ft,(sm l [] .nil).2];simp
theorem uP {l:List Int} (h:l.Nodup):dE l=ft l :=
 Ms (Gh h) (mm l) λx=>by
  rw [ED];exact (List.mergeSort_perm l _).mem_iff
theorem yv {l:List Int} (h:l.Nodup):(ft l).length=l.length:=by
 rw [<-uP h];exact List.length_mergeSort l
theorem qG:∀ (l acc:List Int),acc.Nodup->(l.foldl (λacc d=>if acc.length<8/\d∉acc then acc++[d] else acc) acc).Nodup
 | [],acc,h=>h
 | d :: l,acc,h=>by
   refine qG l _ ?_;show (if acc.length<8/\d∉acc then acc++[d] else acc).Nodup;split
   ·rename_i k;exact CN.2 ⟨h,Pw.2 ⟨List.not_mem_nil,List.nodup_nil⟩,λx hx y hy e=>k.2 (by rw [Hj.1 hy] at e;exact e▸hx)⟩
   ·exact h
theorem nV (l:List Int):(dm l).Nodup:=qG l [] List.nodup_nil
theorem EE:∀ (m:List Int) (l:List Int),¬(dm l).length<8->dm (l++m)=dm l
 | [],l,_=>by rw [gR]
 | d :: m,l,h=>by
   have e:dm (l++[d])=dm l:=by rw [uO,aR (λk=>h k.1)]
   rw [show l++d :: m=(l++[d])++m by simp,EE m (l++[d]) (by rw [e];exact h),e]
theorem Q5 {l:List Int} {d:Int} (h:(ft (dm l)).length<8):ft (dm (l++[d]))=jt (ft (dm l)) d:=by
 rw [yv (nV l)] at h;rw [uO];by_cases k:d∈dm l
 ·rw [aR (λe=>e.2 k)];unfold jt;rw [bp ((ED _ _).2 k)]
 ·rw [bp ⟨h,k⟩,Cd]
theorem VL {l:List Int} {i:Nat} (h:¬(ft (dm (l.take i))).length<8∨l.length<=i):ft (dm (l.take i))=dE (dm l):=by
 rw [uP (nV l)];rcases h with h|h
 ·rw [yv (nV _)] at h;have:=EE (l.drop i) (l.take i) h;rw [KG] at this;rw [this]
 ·rw [gx h]
theorem Kf {p:Prim} (h:(p.aq.aa.map (·.ae)).Nodup):ft (fY p)=dE (fY p) :=
 (uP (zeS (List.Sublist.map _ zd1) h)).symm
def pj (p:Prim) (i:Nat):List Int:=ft ((mW (p.aq.aa.take i) (p.round - 1)).map (·.ae))
theorem uQ {p:Prim} {i:Nat} {c:Cert} (hc:p.aq.aa[i]? = some c):pj p (i+1)=if c.round=p.round - 1 then jt (pj p i) c.ae else pj p i:=by
 unfold pj mW;rw [gz hc,CC];by_cases h:c.round=p.round - 1
 ·rw [bp h,List.filter_cons_of_pos (by simpa using h),List.filter_nil,RH];exact Cd _ _
 ·rw [aR h,List.filter_cons_of_neg (by simpa using h),List.filter_nil,gR]
theorem s8 {p:Prim} {i:Nat} (h:p.aq.aa.length<=i):pj p i=ft (fY p):=by
 unfold pj fY;rw [gx h]
theorem EF (p:Prim):∀ i,(pj p i).length<=i
 | 0=>by
   show (ft ((mW [] (p.round - 1)).map (·.ae))).length<=0;exact eQ _
 | i+1=>by
   have ih:=EF p i
   cases hc:p.aq.aa[i]? with
   | none =>
     have hl:p.aq.aa.length<=i:=by simpa using hc
     rw [s8 hl] at ih;rw [s8 oM];omega
   | some c =>
     rw [uQ hc];split
     ·have:=EC (pj p i) c.ae;omega
     ·omega
theorem Y5 {l:List Int} {n:Int} (h:n∈l):0<=KN l n:=by
 unfold KN inC
 cases hx:l.findIdx? λy=>decide (y=n) with
 | none =>
   rw [Wx] at hx;have:=hx n h;simp at this
 | some i=>exact Int.natCast_nonneg i
theorem Y6 (l:List Int) (hl:aJ l) (n:Int) (h:n∈l):zA 80 [.d (.sl 1 (nums l)),.k n] [] (pQ (.d (.sl 1 (nums l))) []):=by
 have fD:=Ep l (by unfold aU;unfold aJ at hl;omega) n;have hy:=Y5 h;refine dB func80 ntmps80 ?_;refine qR fD ?_;repeat' (apply tw<;>intro _)
 ·exact ⟨rfl,rfl⟩
 ·rename_i k;exact absurd hy k
theorem s_ (l:List Int) (hl:aJ l) (hs:bq l) (n:Int):zA 80 [.d (.sl 1 (nums l)),.k n] [] (pQ (.d (.sl 1 (nums (jt l n)))) []):=by
 unfold jt;by_cases h:n∈l
 ·rw [bp h];exact Y6 l hl n h
 ·rw [aR h];exact wz l hl hs n h
open Classical in
theorem VM (p:Prim) (bw:p.ok) (zx:p.aq.aa.length<=100000) (l:List Int) (hl:aU l) (k1:ec p) (k2:lu l=true) (k3:jd p=true) :
  zA 44 [p.av,.d (.sl 1 (nums l))] [] (pQ (.tup [.agg [.k p.id,.k p.round,.arr 0,.arr 1],.k 0]) [.row 3 1 (nums (dE (dm l))) false,.row 3 1 (nums (dE (fY p))) false]):=by
 have h1:=mj p bw;have h2:=oo l hl;have h3:=rY p k1.aq.fit k1.fl k1.round;have h4:=JI p k1.aq.fit k1.round zx l hl;rw [cz k1] at h1;rw [k2] at h2;rw [k3] at h3;refine axz func44 ntmps44 ?_;refine qR h1 ?_;refine qR h2 ?_;refine qR h3 ?_;refine qR h4 ?_;exact ⟨rfl,rfl⟩
theorem EG (p:Prim) (out:List aW) (hl:p.aq.aa.length<=1099511627776) (hc:∀ c∈p.aq.aa,c.aJ) (hn:jA p.nodes=true) (r:Int) :
  zA 132 [.ptr 0 0,.k r] (p.st out) (pQ (.d (.bool (dx p r))) (p.st out)):=by
 have kx:=gQ hn;have h1:=Ez p.aq (by unfold aU;omega) hl hc r;have h2:=kG p.nodes oM;have OW:=ak (mW p.aq.aa r);refine Qa func132 ntmps132 ?_;refine uH X_ ?_
 repeat' (first|(refine jz ?_)|(refine uB h1 ?_)|(refine uB h2 ?_)|fail)
 refine ⟨lM (λb=>AV.d (.bool b)) ?_,rfl⟩;unfold dx quo;rw [zd4];show (((ah (mW p.aq.aa r)).length:Nat):Int)≥_↔_;rw [OW]
theorem EH (p:Prim) (hl:p.aq.aa.length<=1099511627776) (hc:∀ c∈p.aq.aa,c.aJ) (hn:jA p.nodes=true) (hr:1<=p.round/\p.round<=1099511627776) :
  zA 78 [p.av] [] (pQ (.d (.bool (jd p))) []):=by
 have h1:=EG p [] hl hc hn (p.round - 1);unfold jd;refine gG func78 ntmps78 ?_;repeat' (apply tw<;>intro _)
 ·have e1:p.said<p.round:=aM;have e2:p.round=1:=aM;exact ⟨lM (λb=>AV.d (.bool b)) (by rw [cz e1,cz e2];rfl),rfl⟩
 ·have e1:p.said<p.round:=aM;have e2:p.round≠1:=aM;refine h1.mono ?_;rintro _ _ ⟨rfl,rfl⟩
  conv=>whnf
  exact ⟨lM (λb=>AV.d (.bool b)) (by rw [cz e1,aP e2];simp),rfl⟩
 ·have e1:¬p.said<p.round:=aM;exact ⟨lM (λb=>AV.d (.bool b)) (by rw [aP e1];rfl),rfl⟩
def ajx (p:Prim):Bool->Nat->AF×List AB
 | true,i=>([(1,.ptr 0 0),(3,.arr 1),(4,.k i)],[.cells (p.cs.map AV.d),.row 3 1 [] false])
 | false,i=>([(1,.ptr 0 0),(3,.d (.sl 1 (nums (pj p i)))),(4,.k i)],[.cells (p.cs.map AV.d)])
theorem wV (p:Prim) (hl:p.aq.aa.length<=100000) (hr:1<=p.round/\p.round<=1099511627776) :
  zA 79 [p.av] [] (pQ (.d (.sl 1 (nums (ft (fY p))))) []):=by
 have bR:=ak p.aq.aa;refine dB func79 ntmps79 ?_;refine dw aF bf aG (σ:=Bool) (ρ:=Nat) (ajx p) (λb i=>i<=p.aq.aa.length/\(b=true->pj p i=[])) (λ_ i=>p.aq.aa.length - i) [1,3,4] ?_ ?_
 ·conv=>whnf
  exact ⟨true,0,rfl,rfl,br _,λ_=>rfl⟩
 ·rintro b i ⟨hi,hb⟩;have fT:=EF p i
  cases b with
  | true =>
    have he:=hb rfl;refine rdv ?_;repeat' (apply tw<;>intro _)
    ·have eL:(i:Int)<((ah p.aq.aa).length:Int):=aM;refine eG p.aq.aa i λc hc=>?_;have dq:=uQ hc;have hw:=s_ (pj p i) (by unfold aJ;omega) (mm _) c.ae;rw [he] at hw dq;refine uH Uk ?_
     repeat' (first|(refine jz ?_;repeat' (apply tw<;>intro _))|((with_reducible apply aC);(focus (intro K hK;(conv=>whnf);exact ⟨oM,c.cs,aB hc,hK⟩));(conv=>whnf))|((with_reducible apply aC);(focus (intro K hK;(conv=>whnf);exact iB hc (by first|rfl|omega) hK));(conv=>whnf))|fail)
     ·have hcr:c.round=p.round - 1:=aM;rw [bp hcr] at dq;refine ⟨oM,c.cs,aB hc,?_⟩;refine rdv ?_
      (refine Or.inl ?_;(conv=>whnf))
      refine aQ hw ?_;exact ⟨false,i+1,by rw [<-dq];rfl,rfl,⟨oM,λh=>(by cases h)⟩,oM⟩
     ·have hcr:c.round≠p.round - 1:=aM;rw [aR hcr] at dq;exact ⟨true,i+1,rfl,rfl,⟨oM,λ_=>dq⟩,oM⟩
    ·have eL:¬(i:Int)<((ah p.aq.aa).length:Int):=aM;refine ⟨?_,rfl⟩;rw [s8 oM] at he;rw [he];rfl
  | false =>
    refine rdv ?_;repeat' (apply tw<;>intro _)
    ·have eL:(i:Int)<((ah p.aq.aa).length:Int):=aM;refine eG p.aq.aa i λc hc=>?_;have dq:=uQ hc;have hw:=s_ (pj p i) (by unfold aJ;omega) (mm _) c.ae;refine uH Uk ?_
     repeat' (first|(refine jz ?_;repeat' (apply tw<;>intro _))|((with_reducible apply aC);(focus (intro K hK;(conv=>whnf);exact ⟨oM,c.cs,aB hc,hK⟩));(conv=>whnf))|((with_reducible apply aC);(focus (intro K hK;(conv=>whnf);exact iB hc (by first|rfl|omega) hK));(conv=>whnf))|fail)
     ·have hcr:c.round=p.round - 1:=aM;rw [bp hcr] at dq;refine ⟨oM,c.cs,aB hc,?_⟩;refine rdv ?_;refine aQ hw ?_;exact ⟨false,i+1,by rw [<-dq];rfl,rfl,⟨oM,λh=>(by cases h)⟩,oM⟩
     ·have hcr:c.round≠p.round - 1:=aM;rw [aR hcr] at dq;exact ⟨false,i+1,by rw [<-dq];rfl,rfl,⟨oM,λh=>(by cases h)⟩,oM⟩
    ·have eL:¬(i:Int)<((ah p.aq.aa).length:Int):=aM;refine ⟨?_,rfl⟩;show AV.d (.sl 1 (nums (pj p i)))=_;rw [s8 oM]
def noH (e:Int):AV := .tup [.agg [.k 0,.k 0,.d .nils,.d .nils],.k e]
theorem Kg (l:List Int):(∀ x∈l,1<=x/\x<=65536)↔lu l=true:=by
 unfold lu;rw [Fe];simp only [jh]
def ajy (p:Prim) (l:List Int) (i:Nat):AF×List AB:=([(1,.d (.sl 1 (nums l))),(4,.ptr 0 0),(6,.ptr 1 0),(7,.k i)],[.cells [.k 0,.k 0,.d .nils,.d .nils],.cells [.k p.id,.k p.round,.d (.sl 1 (nums (ft (dm (l.take i))))),.d (.sl 1 (nums (ft (fY p))))]])
open Classical in
theorem VN (p:Prim) (hm:ec p) (hl:p.aq.aa.length<=100000) (hc:∀ c∈p.aq.aa,c.aJ) (l:List Int) (eM:aU l) :
  zA 43 [p.av,.d (.sl 1 (nums l))] [] (λav L=>((lu l=false/\av=noH 1)∨(lu l=true/\jd p=false/\av=noH 10)∨(lu l=true/\jd p=true/\av = .tup [(wE p l).pD,.k 0]))/\L=[]):=by
 have h1:=hU l eM;have h2:=EH p oM hc hm.fl hm.round;have h3:=wV p hl hm.round;have Jm:=nums_length l;have ajz:=eM;unfold aU at ajz;refine dB func43 ntmps43 ?_;refine h1.mono ?_;rintro _ _ ⟨rfl,rfl⟩
 cases hd:lu l with
 | false =>
   have Oi:¬∀ x∈l,1<=x/\x<=65536:=λh=>by rw [(Kg l).1 h] at hd;cases hd
   rw [aP Oi];refine rdv ?_;exact ⟨.inl ⟨rfl,rfl⟩,rfl⟩
 | true =>
   rw [cz ((Kg l).2 hd)];refine rdv ?_;refine h2.mono ?_;rintro _ _ ⟨rfl,rfl⟩
   cases hr:jd p with
   | false =>
     refine rdv ?_;exact ⟨.inr (.inl ⟨rfl,rfl,rfl⟩),rfl⟩
   | true =>
     refine rdv ?_;refine uH acf ?_
     repeat' (first|(refine jz ?_)|((with_reducible apply aC);(focus (intro K hK;(conv=>whnf);refine h3.mono ?_;rintro _ _ ⟨rfl,rfl⟩;(conv=>whnf);exact hK));(conv=>whnf))|((with_reducible apply eT);(focus ((conv=>whnf);intro K hK;(conv=>whnf);refine h3.mono ?_;rintro _ _ ⟨rfl,rfl⟩;(conv=>whnf);exact hK));(conv=>whnf))|fail)
     refine lj [(2,2,1)] rfl ?_;refine aH aF bf aG (σ:=Nat) (ajy p l) (λi=>i<=l.length) (λi=>l.length - i) [1,4,6,7] ?_ ?_
     ·conv=>whnf
      exact ⟨0,rfl,rfl,br _⟩
     ·intro i hi;have jl:(ft (dm (l.take i))).length<=8:=by rw [yv (nV _)];exact yk _
      have ZL:=nums_length (ft (dm (l.take i)));have Kh:¬(ft (dm (l.take i))).length<8∨l.length<=i->AV.tup [.agg [.k p.id,.k p.round,.d (.sl 1 (nums (ft (dm (l.take i))))),.d (.sl 1 (nums (ft (fY p))))],.k 0] = .tup [(wE p l).pD,.k 0]:=λh=>by
       rw [VL h,Kf hm.aq.dD];rfl
      refine rdv ?_;repeat' (apply tw<;>intro _)
      ·have k1:(i:Int)<((nums l).length:Int):=aM;have k2:((nums (ft (dm (l.take i)))).length:Int)<8:=aM;refine eG l i λd hd=>?_;have hw:=s_ (ft (dm (l.take i))) (by unfold aJ;omega) (mm _) d;have dq:=Q5 (l:=l.take i) (d:=d) oM;rw [<-gz hd] at dq;rw [<-dq] at hw;refine uH acg ?_
       repeat' (first|(refine jz ?_)|((with_reducible apply aC);(focus (intro K hK;(conv=>whnf);exact iB hd (by first|rfl|omega) hK));(conv=>whnf))|((with_reducible apply aC);(focus (intro K hK;(conv=>whnf);exact ⟨oM,[.j d],bD hd,hK⟩));(conv=>whnf))|((with_reducible apply aC);(focus (intro K hK;(conv=>whnf);refine hw.mono ?_;rintro _ _ ⟨rfl,rfl⟩;(conv=>whnf);exact hK));(conv=>whnf))|((with_reducible apply eT);(focus ((conv=>whnf);intro K hK;(conv=>whnf);refine hw.mono ?_;rintro _ _ ⟨rfl,rfl⟩;(conv=>whnf);exact hK));(conv=>whnf))|fail)
       refine aQ hw ?_;exact ⟨i+1,rfl,rfl,(oM:i+1<=l.length),(oM:l.length - (i+1)<l.length - i)⟩
      ·rename_i k1 k2;replace k2:¬((nums (ft (dm (l.take i)))).length:Int)<8:=k2;exact ⟨.inr (.inr ⟨rfl,rfl,Kh (.inl oM)⟩),rfl⟩
      ·have k1:¬(i:Int)<((nums l).length:Int):=aM;exact ⟨.inr (.inr ⟨rfl,rfl,Kh (.inr oM)⟩),rfl⟩
def qF (p:Prim):List Cert->Int->Int
 | [],q=>q
 | c :: l,q=>qF p l (if c.round>q/\dx p c.round=true then c.round else q)
theorem O6 (p:Prim) (c:Cert):∀ (l:List Cert) (q:Int),qF p (l++[c]) q=if c.round>qF p l q/\dx p c.round=true then c.round else qF p l q
 | [],q=>rfl
 | a :: l,q=>by
   show qF p (l++[c]) _=_;rw [O6 p c l];rfl
theorem aaJ (p:Prim):∀ (l:List Cert) (q:Int),q<=qF p l q
 | [],q=>G8 _
 | c :: l,q=>by
   show q<=qF p l _;refine Int.le_trans ?_ (aaJ p l _);split<;>omega
theorem VO (p:Prim):∀ (l:List Cert) (q:Int),∀ c∈l,dx p c.round=true->c.round<=qF p l q
 | a :: l,q,c,hc,hf=>by
   show c.round<=qF p l _;rcases jy.1 hc with rfl|hc
   ·refine Int.le_trans ?_ (aaJ p l _);by_cases h:c.round>q
    ·rw [bp ⟨h,hf⟩];exact G8 _
    ·rw [aR (λk=>h k.1)];omega
   ·exact VO p l _ c hc hf
theorem O7 (p:Prim):∀ (l:List Cert) (q:Int),qF p l q=q∨∃ c∈l,qF p l q=c.round/\dx p c.round=true
 | [],q => .inl rfl
 | a :: l,q=>by
   show qF p l _=q∨∃ c∈a :: l,qF p l _=c.round/\_;rcases O7 p l (if a.round>q/\dx p a.round=true then a.round else q) with h|⟨c,h1,h2,h3⟩
   ·by_cases k:a.round>q/\dx p a.round=true
    ·rw [bp k] at h ⊢;exact .inr ⟨a,by simp,h,k.2⟩
    ·rw [aR k] at h ⊢;exact .inl h
   ·exact .inr ⟨c,by simp [h1],h2,h3⟩
def qM (p:Prim):Int:=qF p p.aq.aa 0
def ox (p:Prim) (x:Int×Int):Int×Int:=if qM p>x.1 then (qM p,0) else x
def nn (p:Prim):Nat->Int×Int->Int×Int
 | 0,x=>x
 | n+1,x=>if ir p (ox p x)=true then nn p n ((ox p x).1+1,0) else ox p x
def aaK (p:Prim) (x:Int×Int) (r:Int):Prop:=∀ c∈p.aq.aa,c.round>x.1->dx p c.round=true->c.round<=r
theorem VP {p:Prim} (hn:1<=p.nodes) {r:Int} (h:dx p r=true):∃ c∈p.aq.aa,c.round=r:=by
 unfold dx quo at h;have h1:=gQ h;have h2:0<(mW p.aq.aa r).length:=oM;obtain ⟨c,hc⟩:=List.exists_mem_of_length_pos h2;unfold mW at hc;have h3:=G7.1 hc;exact ⟨c,h3.1,gQ h3.2⟩
theorem Q6 {p:Prim} (hn:1<=p.nodes) (fb:∀ c∈p.aq.aa,c.round>p.aq.low) {x:Int×Int} (hx:1<=x.1) {r:Int} (ha:aaK p x r) (hc:js p x r=false):lift p x r=ox p x:=by
 have hq:=O7 p p.aq.aa 0;unfold lift ox;by_cases h:r>x.1/\r>p.aq.low
 ·rw [bp h];have hf:dx p r=true:=by
   unfold js at hc;rw [cz h] at hc;simpa using hc
  obtain ⟨c,h1,h2⟩:=VP hn hf;have h3:=VO p p.aq.aa 0 c h1 (by rw [h2];exact hf);have h4:qM p=r:=by
   rcases hq with hq|⟨c',k1,k2,k3⟩
   ·unfold qM at *;omega
   ·have:=ha c' k1 oM k3;unfold qM;omega
  rw [h4,bp h.1]
 ·rw [aR h];have:¬qM p>x.1:=by
   intro hgt;rcases hq with hq|⟨c',k1,k2,k3⟩
   ·unfold qM at hgt;omega
   ·have e:qM p=c'.round:=k2;have h5:=ha c' k1 oM k3;have h6:=fb c' k1;exact h ⟨oM,oM⟩
  rw [aR this]
theorem GL {p:Prim} (hn:1<=p.nodes) (fb:∀ c∈p.aq.aa,c.round>p.aq.low):∀ (m n:Nat) (x:Int×Int) (r:Int),1<=x.1->aaK p x r->u_ x r<m->(1099511627776 - x.1).toNat<n->xf p m x r=nn p n x
 | 0,n,x,r,_,_,h,_=>oM
 | m+1,0,x,r,_,_,_,h=>oM
 | m+1,n+1,x,r,hx,ha,hm,PV=>by
   unfold xf;by_cases hc:js p x r=true
   ·rw [bp hc];have h1:=GF hc;refine GL hn fb m (n+1) x (r - 1) hx ?_ (by unfold u_ at *;omega) PV;intro c i_ hgt hf;have h2:=ha c i_ hgt hf;have h3:c.round≠r:=by
     intro e;rw [e] at hf;unfold js at hc;rw [hf] at hc;simp at hc
    omega
   ·rw [aR hc];have MT:js p x r=false:=by simpa using hc
    have hl:=Q6 hn fb hx ha MT;have hlm:=GD p x r hx;rw [hl];rw [hl] at hlm;unfold nn;by_cases hg:ir p (ox p x)=true
    ·rw [bp hg,bp hg];have h1:=ot hg;refine GL hn fb m n _ r (by show 1<=(ox p x).1+1;omega) (λc i_ hgt hf=>ha c i_ (by have h2:c.round>(ox p x).1+1:=hgt;omega) hf) (by unfold u_ at *;show (1099511627776 - ((ox p x).1+1)).toNat+_<_;omega) (by show (1099511627776 - ((ox p x).1+1)).toNat<_;omega)
    ·rw [aR hg,aR hg]
theorem VQ {p:Prim} (hv:Valid p.aq) (hn:1<=p.nodes) (hx:1<=p.round) (n:Nat) (h:(1099511627776 - p.round).toNat<n):wK p=p.at (nn p n (p.round,p.iq)):=by
 unfold wK;congr 1;refine GL hn (λc hc=>hv.OK c hc) _ n _ _ hx ?_ (Nt _) h;intro c hc _ _;exact acQ hv hc
theorem EI (p:Prim) (out:List aW) (hv:Valid p.aq) (jP:p.aq.nodes=p.nodes) (hr:1<=p.round/\p.round<=1099511627776):zA 150 [.ptr 0 0,.k p.round] (p.st out) (pQ (.d (.bool (nh p))) (p.st out)):=by
 have kx:=gQ hv.nodes;have hn:0<p.aq.nodes/\p.aq.nodes<=16:=⟨oM,oM⟩;have hfc:=OY hv;have tx:aU p.aq.aa:=hv.fit.aU;unfold nh;by_cases h2:p.round % 2=0
 ·have h1:=uK p.aq tx hn p.round ⟨oM,oM⟩;rw [bp h2];refine cF aF bf aG func150 rfl ntmps150 rfl true rfl ?_
  conv=>whnf
  refine ⟨dC,λz hz=>?_⟩;replace hz:=jS oM hz;subst hz;refine rdv ?_;repeat' (apply tw<;>intro _)
  ·refine aQ h1 ?_;exact ⟨rfl,rfl⟩
  all_goals exact absurd h2 (by assumption)
 ·rw [aR h2];have h5:=YE p.nodes ⟨oM,oM⟩;refine cF aF bf aG func150 rfl ntmps150 rfl true rfl ?_
  conv=>whnf
  refine ⟨dC,λz hz=>?_⟩;replace hz:=jS oM hz;subst hz;refine rdv ?_;repeat' (apply tw<;>intro _)
  ·rename_i h;exact absurd h h2
  ·rename_i _ h1;replace h1:p.round=1:=h1;exact ⟨lM (λb=>AV.d (.bool b)) (by rw [cz h1];rfl),rfl⟩
  ·rename_i _ h1;replace h1:p.round≠1:=h1;have h3:=uK p.aq tx hn (p.round - 1) ⟨oM,oM⟩;have h4:=Qv p.aq tx hn hfc (p.round - 1) ⟨oM,oM⟩;refine aQ h3 ?_;repeat' (apply tw<;>intro _)
   ·rename_i h6;exact ⟨lM (λb=>AV.d (.bool b)) (by rw [aP h1,cz h6];rfl),rfl⟩
   ·rename_i h6;refine uH Yf ?_
    repeat' (first|(refine jz ?_)|(refine uB h4 ?_)|(refine uB h5 ?_)|fail)
    refine ⟨lM (λb=>AV.d (.bool b)) ?_,rfl⟩;rw [aP h1,aP h6];unfold settled;rw [Bool.false_or,Bool.false_or,zd4];rw [jP] at kx ⊢;omega
end Go.Proofs.YtolkmjfkkkiboaaGreat
