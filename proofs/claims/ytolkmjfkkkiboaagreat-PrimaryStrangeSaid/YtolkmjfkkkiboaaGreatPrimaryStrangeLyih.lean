/- PrimaryStrange: abstract runs. -/
import Derived.Test.YtolkmjfkkkiboaaGreatPrimaryStrangeLyspl
set_option linter.unusedVariables false
set_option linter.unusedSimpArgs false
namespace Go.Ab
open Go.RowKit
def ints (l:List Int):List (List DV):=l.map fun x=>[DV.int .i64 x]
theorem VDs_ints {rd:Addr→Value→Prop}:∀ {l:List Int} {us:List Value},VDs rd (ints l).flatten us→us=l.map fun x => .int .i64 x
 | [],us,h=>by simpa [ints,VDs,Cs] using h
 | b :: bs,us,h=>by
   simp only [ints,List.map_cons,List.flatten_cons,List.singleton_append,VDs,Cs] at h
   obtain ⟨u,us',rfl,_,h1,h2⟩:=h
   simp only [VD] at h1
   subst h1
   have:=VDs_ints (l:=bs) (by simpa [ints,VDs] using h2)
   simp [this]
theorem ints_VDs {rd:Addr→Value→Prop}:∀ (l:List Int),VDs rd (ints l).flatten (l.map fun x=>Value.int .i64 x)
 | []=>by simp [ints,VDs,Cs]
 | b :: bs=>by
   simp only [ints,List.map_cons,List.flatten_cons,List.singleton_append,VDs,Cs]
   exact ⟨_,_,rfl,rfl,by simp [VD],by simpa [ints,VDs] using ints_VDs bs⟩
theorem hole_row {w:World} {b cap:Nat} {e:TypeId} {l:List Int} {cur:Array Value} {lo n:Nat} (hg:gsh 1=[Sh.int]) (he:gsz e=1) (hh:w.heap[b]? = some (.cells cur e (0,0))) (hsz:cur.size=cap * 1) (hlc:l.length≤cap) (hcm:cap≤maxLen) (hll:l.length≤4294967296)
  {rd:Addr→Value→Prop} (hv:VDs rd (ints l).flatten (cur.toList.take (l.length * 1))) (h1:lo≤b) (h2:b<lo+n) :
  islRel w (.slo 1 (ints l)) (.slice (some ⟨b,0,none⟩) (ints l).length cap) (.isle lo n (.hole b 1 true)):=by
 have hll2:(ints l).length=l.length:=by simp [ints]
 rw [Nat.mul_one] at hv
 have hcur:=VDs_ints hv
 have hat:∀ j u,(l.map fun x=>Value.int .i64 x)[j]? = some u→w.cell? ⟨b,j,none⟩=some u:=by
  intro j u hj
  rw [← hcur,List.getElem?_take] at hj
  rw [cell_of_row w b j cur e (0,0) hh]
  split at hj
  ·simpa using hj
  ·cases hj
 refine ⟨fun h=>(by cases h),fun m xs h => ?_⟩
 cases h
 refine ⟨fun _ => ?_,h1,by omega,?_⟩
 ·simp only [VD]
  refine ⟨by omega,some ⟨b,0,none⟩,cap,rfl,by omega,hcm,(fun h=>by cases h),fun a' ha => ?_⟩
  cases ha
  refine ⟨.inr rfl,VDE_of (fun _ _ h=>h) 1 (ints_VDs l) (fun cs hcs=>by obtain ⟨x,_,rfl⟩:=List.mem_map.1 hcs;rfl) rfl fun j u hj => ?_⟩
  rw [Nat.zero_add]
  exact ⟨Nat.le_refl _,Nat.lt_succ_self _,hat j u hj⟩
 ·refine ⟨_,_,_,rfl,by omega,⟨hcm,by omega⟩,.inr ⟨_,rfl,rfl,Nat.le_refl _,Nat.lt_succ_self _,⟨cur,e,(0,0),hh,unfroz_0 _,he,Nat.mod_one _,by show 0+cap * 1≤_;omega⟩,fun i j sh hi hj => ?_⟩⟩
  rw [hg] at hj
  rw [hll2] at hi
  cases j with
  | succ j=>simp at hj
  | zero =>
    simp at hj
    subst hj
    refine ⟨.int .i64 l[i],hat (0+i * 1+0) _ ?_,⟨_,rfl⟩⟩
    rw [Nat.zero_add,Nat.mul_one,Nat.add_zero,List.getElem?_map,List.getElem?_eq_getElem hi]
    rfl
theorem hole_nil {w:World} {lo n:Nat}:islRel w (.slo 1 []) (.slice none 0 0) (.isle lo n (.hole lo 0 true)):=by
 refine ⟨fun h=>(by cases h),fun m xs h => ?_⟩
 cases h
 refine ⟨fun _ => ?_,Nat.le_refl _,by omega,SL_none ..⟩
 simp only [VD]
 exact ⟨by omega,none,0,rfl,by simp,by simp [maxLen],fun _=>rfl,fun _ h=>by cases h⟩
theorem isl_hole {w:World} {lo n b k:Nat} {ok:Bool} {m:Nat} {xs:List (List DV)} {v:Value} (h:VD (rdX lo n b k w) (.sl m xs) v):islRel w (.sl m xs) v (.isle lo n (.hole b k ok)) :=
 ⟨fun _=>h,fun m xs h=>by cases h⟩
mutual
theorem VD_isleX {lo n b k:Nat} {w:World} {rd:Addr→Value→Prop} (hrd:∀ a u,rd a u→(a.spot=none→w.cell? a=some u∧¬(b≤a.block∧a.block<b+k))∧∀ m,a.spot=some m→Tk (some lo) w a u) (hsz:lo+n=w.heap.size):∀ (x:DV) (v:Value),NoO x→VD rd x v→VD (rdX lo n b k w) x v
 | .int k n,v,_,x=>by simpa [VD] using x
 | .bool b,v,_,x=>by simpa [VD] using x
 | .str b,v,_,x=>by simpa [VD] using x
 | .flt k b,v,_,x=>by simpa [VD] using x
 | .cplx _ _ _,v,_,x=>by simpa [VD] using x
 | .nils,v,_,x=>by simpa [VD] using x
 | .slo _ _,v,h,x=>by simp [NoO] at h
 | .sl m xs,v,h,x=>by
   simp only [NoO] at h
   simp only [VD] at x ⊢
   obtain ⟨hn,a,cap,h1,h2,h3,h4,h5⟩:=x
   refine ⟨hn,a,cap,h1,h2,h3,h4,fun a' ha => ?_⟩
   obtain ⟨k1,k2,k3⟩:=h5 a' ha
   have hb:0<cap→lo≤a'.block∧a'.block<lo+n:=fun hc=>by
    obtain ⟨m',e1,e2⟩:=(hrd _ _ (k2 hc)).2 m rfl
    obtain ⟨e3,cur,e,mk,cap',e4,e5,_⟩:=e2 lo rfl
    exact ⟨e3,by rw [hsz];exact (Array.getElem?_eq_some_iff.1 e5).1⟩
   refine ⟨k1,fun hc=>⟨(hb hc).1,(hb hc).2,.inr ((hrd _ _ (k2 hc)).2 m rfl)⟩,?_⟩
   rcases k1 with e|hs
   ·subst e;simp [VDE]
   ·by_cases hx:xs=[]
    ·subst hx;simp [VDE]
    ·have hc:0<cap:=by
      have:xs.length≠0:=fun e=>hx (List.eq_nil_of_length_eq_zero e)
      omega
     exact VDE_isleX hrd hsz m xs a' hs (hb hc) h k3
 | .nilp,v,_,x=>by simpa [VD] using x
 | .nilm,v,_,x=>by simpa [VD] using x
 | .nilf,v,_,x=>by simpa [VD] using x
 | .any,v,_,x=>by simp [VD]
theorem VDE_isleX {lo n b k:Nat} {w:World} {rd:Addr→Value→Prop} (hrd:∀ a u,rd a u→(a.spot=none→w.cell? a=some u∧¬(b≤a.block∧a.block<b+k))∧∀ m,a.spot=some m→Tk (some lo) w a u) (hsz:lo+n=w.heap.size) (m:Nat):∀ (xs:List (List DV)) (a:Addr),a.spot=none→(lo≤a.block∧a.block<lo+n)→NoE xs→VDE rd m xs a→VDE (rdX lo n b k w) m xs a
 | [],a,_,_,_,_=>by simp [VDE]
 | cs :: r,a,ha,hb,h,x=>by
   simp only [NoE] at h
   simp only [VDE] at x ⊢
   exact ⟨x.1,VDC_isleX hrd hsz cs a ha hb h.1 x.2.1,VDE_isleX hrd hsz m r _ rfl hb h.2 x.2.2⟩
theorem VDC_isleX {lo n b k:Nat} {w:World} {rd:Addr→Value→Prop} (hrd:∀ a u,rd a u→(a.spot=none→w.cell? a=some u∧¬(b≤a.block∧a.block<b+k))∧∀ m,a.spot=some m→Tk (some lo) w a u) (hsz:lo+n=w.heap.size):∀ (xs:List DV) (a:Addr),a.spot=none→(lo≤a.block∧a.block<lo+n)→NoC xs→VDC rd xs a→VDC (rdX lo n b k w) xs a
 | [],a,_,_,_,_=>by simp [VDC]
 | c :: r,a,ha,hb,h,x=>by
   simp only [NoC] at h
   simp only [VDC] at x ⊢
   obtain ⟨⟨u,h1,h0,h2⟩,h3⟩:=x
   exact ⟨⟨u,⟨hb.1,hb.2,.inl ((hrd _ _ h1).1 ha)⟩,h0,VD_isleX hrd hsz c u h.1 h2⟩,VDC_isleX hrd hsz r _ rfl hb h.2 h3⟩
end
inductive IslH (i:Nat) (l:List Int):AV→AV→Prop
 | isl {a b:AV} (h:Isl2 i a b):IslH i l a b
 | row:IslH i l (.arr 0) (.isl i (.slo 1 (ints l)))
theorem acalls_isle_row {P:Program} {f:FuncId} {avs avs0:List AV} {Lin:List AB} {X:AV→List AB→Prop} {post:AV→Prop} (hg:gsh 1=[Sh.int]) (hl:All2 (lendO2 Lin) avs avs0) (h:ACalls P f avs0 [] X)
  (hx:∀ av L,X av L→∃ (az bs:List AV) (l:List Int),av = .tup az∧l.length≤4294967296∧((L=[]∧All2 (Isl2 Lin.length) az bs)∨∃ t,L=[.row t 1 (ints l) false]∧All2 (IslH Lin.length l) az bs)∧post (.tup bs)) :
  ACalls P f avs Lin (fun av L=>post av∧∃ lo n b k,L=Lin++[.isle lo n (.hole b k true)]):=by
 intro c vs hc hL hs hv
 have hrd:∀ a u,c.w0.cell? a=some u→¬c.M0 a.block a.off→(rcOf ⟨c.M0.m,some c.w0.heap.size⟩ (fun _=>none) [] c.w0).rd a u:=fun a u h1 h2 =>
  .inl ⟨h1,fun hm=>hm.elim h2 fun hm=>hm.elim (fun ⟨i,ab,h,_⟩=>by simp at h) fun ⟨i,ab,h,_⟩=>by simp at h⟩
 have hc':Ctx.wf ⟨c.w0,fun b=>b<c.w0.heap.size,⟨c.M0.m,some c.w0.heap.size⟩,fun _=>none,[],c.n⟩ :=
  ⟨fun b hb=>hb,fun b o hm=>hc.low b (hc.sub b o hm),fun s hs b hb=>by cases hs;exact hb⟩
 have hs':SimH ⟨c.w0,fun b=>b<c.w0.heap.size,⟨c.M0.m,some c.w0.heap.size⟩,fun _=>none,[],c.n⟩ (fun _=>none) [] c.w0 :=
  ⟨rfl,rfl,rfl,Nat.le_refl _,fun _ _=>rfl,fun i ab h=>by simp at h,fun i ab b h=>by simp at h,fun i j ab ab' b h=>by simp at h,RC.le.refl _,⟨fun i ab b h=>by simp at h,fun i j ab ab' b h=>by simp at h,fun i ab h=>by simp at h,fun i j ab ab' b h=>by simp at h⟩⟩
 refine (h _ vs hc' rfl hs' (hl.VRt (fun a b v h k=>lendO2_ok hs hc hrd h k) hv)).mono ?_
 rintro e w' ⟨v,av,L',E',rfl,hX,h3,h4⟩
 have hk:Keeps c.w0 w':=⟨h3.os,h3.tape,h3.output,h3.size,h3.prot⟩
 obtain ⟨az,bs,l,rfl,hll,hcase,hp⟩:=hx av L' hX
 have hsz:c.w0.heap.size+(w'.heap.size - c.w0.heap.size)=w'.heap.size:=by have:=h3.size;have h5:c.w0.heap.size≤w'.heap.size:=this;omega
 have hext:∀ b k,SimH c (Eupd c.E0 Lin.length none) (Lin++[.isle c.w0.heap.size (w'.heap.size - c.w0.heap.size) (.hole b k true)]) w':=fun b k =>
  hs.extend hc hk (.isle c.w0.heap.size (w'.heap.size - c.w0.heap.size) (.hole b k true)) none (fun b hb=>by cases hb) (fun b hb=>by
   simp only [AB.boxes,List.mem_range'_1] at hb
   exact hb.1) (by simp only [AB.boxes];exact List.nodup_range') (fun b _=>by simp) (fun b h1 h2=>by
   rw [hsz] at h2
   exact ⟨_,Array.getElem?_eq_getElem h2⟩)
 -- data that is apart from the hole
 have conv:∀ b k,(∀ a u,(rcOf ⟨c.M0.m,some c.w0.heap.size⟩ E' L' w').rd a u→a.spot=none→¬(b≤a.block∧a.block<b+k))→∀ a a' v,Isl Lin.length a a'→VR (rcOf ⟨c.M0.m,some c.w0.heap.size⟩ E' L' w') a v→VR (rcOf c.M0 (Eupd c.E0 Lin.length none) (Lin++[.isle c.w0.heap.size (w'.heap.size - c.w0.heap.size) (.hole b k true)]) w') a' v:=by
  intro b k hnb a a' v hab hv
  cases hab with
  | flat hf=>simp only [VR] at hv ⊢;exact hf _ _ _ hv
  | @sl m xs hno =>
    simp only [VR] at hv ⊢
    have h9:=VD_isleX (b:=b) (k:=k) (rd:=(rcOf ⟨c.M0.m,some c.w0.heap.size⟩ E' L' w').rd) (fun a u hr=>⟨fun ha=>⟨(rd_cell hr ha).1,hnb a u hr ha⟩,fun m hm=>rd_tk hr hm⟩) hsz (.sl m xs) v (by simp only [NoO];exact hno) hv
    refine ⟨⟨.isle c.w0.heap.size (w'.heap.size - c.w0.heap.size) (.hole b k true),by simp,isl_hole h9⟩,?_⟩
    simp only [VD] at hv
    obtain ⟨_,p,cap,rfl,_⟩:=hv
    rfl
 have conv2:∀ b k,(∀ a u,(rcOf ⟨c.M0.m,some c.w0.heap.size⟩ E' L' w').rd a u→a.spot=none→¬(b≤a.block∧a.block<b+k))→∀ a a' v,Isl2 Lin.length a a'→VR (rcOf ⟨c.M0.m,some c.w0.heap.size⟩ E' L' w') a v→VR (rcOf c.M0 (Eupd c.E0 Lin.length none) (Lin++[.isle c.w0.heap.size (w'.heap.size - c.w0.heap.size) (.hole b k true)]) w') a' v:=by
  intro b k hnb a a' v hab hv
  rcases hab with h|⟨az,bs,rfl,rfl,h⟩
  ·exact conv b k hnb _ _ _ h hv
  ·simp only [VR] at hv ⊢
   obtain ⟨us,e,h1⟩:=hv
   exact ⟨us,e,h.VRs (conv b k hnb) h1⟩
 simp only [VR] at h4
 obtain ⟨us,e,h4⟩:=h4
 rcases hcase with ⟨rfl,hall⟩|⟨t,rfl,hall⟩
 ·refine ⟨v,.tup bs,_,_,rfl,⟨hp,_,_,c.w0.heap.size,0,rfl⟩,hext _ _,?_⟩
  simp only [VR]
  exact ⟨us,e,hall.VRt (conv2 _ 0 fun a u _ _=>by omega) h4⟩
 ·have h0:([AB.row t 1 (ints l) false]:List AB)[0]? = some (.row t 1 (ints l) false):=rfl
  obtain ⟨hn,hcs,hbr⟩:=h3.blk 0 _ h0
  cases hE:E' 0 with
  | none =>
    rw [hE] at hbr
    simp only at hbr
    refine ⟨v,.tup bs,_,_,rfl,⟨hp,_,_,c.w0.heap.size,0,rfl⟩,hext _ _,?_⟩
    simp only [VR]
    refine ⟨us,e,hall.VRt (fun a b v h k => ?_) h4⟩
    cases h with
    | isl h=>exact conv2 _ 0 (fun a u _ _=>by omega) _ _ _ h k
    | row =>
      simp only [VR] at k ⊢
      obtain ⟨ab,hab,har⟩:=k
      rw [h0] at hab
      cases hab
      simp only [arRel,hE] at har
      subst har
      rw [hbr]
      exact ⟨⟨.isle c.w0.heap.size (w'.heap.size - c.w0.heap.size) (.hole c.w0.heap.size 0 true),by simp,hole_nil⟩,rfl⟩
  | some b =>
    rw [hE] at hbr
    obtain ⟨cap',cur',hh',hsz',hxc,hxm,hvx⟩:=hbr
    have hblow:c.w0.heap.size≤b:=by
     have:=h3.low 0 _ b h0 rfl hE
     exact Nat.le_of_not_lt this
    have hblt:b<c.w0.heap.size+(w'.heap.size - c.w0.heap.size):=by rw [hsz];exact h3.lt h0 rfl hE
    have hlen:(ints l).length=l.length:=by simp [ints]
    refine ⟨v,.tup bs,_,_,rfl,⟨hp,_,_,b,1,rfl⟩,hext _ _,?_⟩
    simp only [VR]
    refine ⟨us,e,hall.VRt (fun a a' v h k => ?_) h4⟩
    cases h with
    | isl h =>
      refine conv2 b 1 (fun a u hr ha hb => ?_) _ _ _ h k
      have hbb:a.block=b:=by omega
      exact (rd_cell hr ha).2 (.inr (.inl ⟨0,_,h0,by rw [hE,hbb],fun h=>by cases h⟩))
    | row =>
      simp only [VR] at k ⊢
      obtain ⟨ab,hab,har⟩:=k
      rw [h0] at hab
      cases hab
      simp only [arRel,hE] at har
      obtain ⟨cap,cur,rfl,hh,hsz2⟩:=har
      rw [hh] at hh';cases hh'
      have ecap:cap=cap':=by omega
      subst ecap
      refine ⟨⟨.isle c.w0.heap.size (w'.heap.size - c.w0.heap.size) (.hole b 1 true),by simp,hole_row hg hn.2 hh hsz2 (by omega) hxm hll (by rw [← hlen];exact hvx) hblow hblt⟩,rfl⟩
theorem SimH.spoilH {c:Ctx} (hc:c.wf) {E:Nat→Option Nat} {lo n b k:Nat} {w w':World} (h:SimH c E [.isle lo n (.hole b k true)] w) (h1:lo≤b) (h2:b+k≤lo+n) (hs:Spoil b k w w') :
  SimH c E [.isle lo n (.hole b k false)] w'∧(rcOf c.M0 E [.isle lo n (.hole b k true)] w).le (rcOf c.M0 E [.isle lo n (.hole b k false)] w'):=by
 have h0:([AB.isle lo n (.hole b k true)]:List AB)[0]? = some (.isle lo n (.hole b k true)):=rfl
 have hbx:∀ x,(lo≤x∧x<lo+n)↔x∈(AB.isle lo n (.hole b k true)).boxes:=fun b=>by simp only [AB.boxes,List.mem_range'_1]
 have hout:∀ x,x<w.heap.size→¬(lo≤x∧x<lo+n)→w'.heap[x]? = w.heap[x]? := fun x hx hn=>hs.block x hx fun hb=>hn ⟨by omega,by omega⟩
 have one:∀ (x:AB) (j:Nat) (ab:AB),([x]:List AB)[j]? = some ab→j=0∧ab=x:=by
  intro x j ab hj
  cases j with
  | zero=>simp at hj;exact ⟨rfl,hj.symm⟩
  | succ j=>simp at hj
 have hle:(rcOf c.M0 E [.isle lo n (.hole b k true)] w).le (rcOf c.M0 E [.isle lo n (.hole b k false)] w'):=by
  refine ⟨?_,?_,?_,?_,?_⟩
  ·refine rdle rfl hs.like fun a u h1 h2 => ?_
   have hn:¬(lo≤a.block∧a.block<lo+n):=fun hb=>h2 (.inr (.inr ⟨0,_,h0,(hbx _).1 hb⟩))
   refine ⟨by rw [World.cell?_of_block (w:=w) (hout a.block (cell?_lt h1) hn)];exact h1,?_⟩
   rintro (hm|⟨i,ab,hi,he,hm⟩|⟨i,ab,hi,hm⟩)
   ·exact h2 (.inl hm)
   ·obtain ⟨rfl,rfl⟩:=one _ _ _ hi
    exact hm.elim
   ·obtain ⟨rfl,rfl⟩:=one _ _ _ hi
    exact hn ((hbx _).2 hm)
  ·rintro i b ⟨ab,h1,h2,h3⟩
   obtain ⟨rfl,rfl⟩:=one _ _ _ h1
   simp [AB.isCell] at h2
  ·rintro i v ⟨ab,h1,h2⟩
   obtain ⟨rfl,rfl⟩:=one _ _ _ h1
   exact h2.elim
  ·rintro i j o v ⟨ab,h1,h2⟩
   obtain ⟨rfl,rfl⟩:=one _ _ _ h1
   exact h2.elim
  ·rintro i x v ⟨ab,g1,g2⟩
   obtain ⟨rfl,rfl⟩:=one _ _ _ g1
   refine ⟨.isle lo n (.hole b k false),rfl,fun e=>VD.mono (fun a u hr => ?_) _ _ (g2.1 e),fun m xs e=>⟨fun h=>(by cases h),h1,h2,hs.sl _ _ _ (g2.2 m xs e).2.2.2⟩⟩
   obtain ⟨r1,r2,r3⟩:=hr
   refine ⟨r1,r2,r3.imp (fun r3=>⟨?_,r3.2⟩) fun r3=>Tk.mono hs.like r3⟩
   rw [World.cell?_of_block (w:=w) (hs.block a.block (cell?_lt r3.1) r3.2)]
   exact r3.1
 refine ⟨⟨hs.os.trans h.os,hs.tape.trans h.tape,hs.output.trans h.output,Nat.le_trans h.size hs.size,?_,?_,?_,?_,h.old.trans hle,?_⟩,hle⟩
 ·intro x hp
  have hn:¬(lo≤x∧x<lo+n):=fun hb=>h.bx.low 0 _ x h0 ((hbx _).1 hb) hp
  rw [hout x (Nat.lt_of_lt_of_le (hc.low x hp) h.size) hn]
  exact h.prot x hp
 ·intro j ab hj
  obtain ⟨rfl,rfl⟩:=one _ _ _ hj
  intro x h1 h2
  have:=h.blt h0 ((hbx x).1 ⟨h1,h2⟩)
  exact ⟨_,Array.getElem?_eq_getElem (Nat.lt_of_lt_of_le this hs.size)⟩
 ·intro j ab b hj hl
  obtain ⟨rfl,rfl⟩:=one _ _ _ hj
  cases hl
 ·intro i j ab ab' b hi hj hl
  obtain ⟨rfl,rfl⟩:=one _ _ _ hi
  cases hl
 ·refine ⟨?_,?_,?_,?_⟩
  ·intro j ab b hj hb
   obtain ⟨rfl,rfl⟩:=one _ _ _ hj
   exact h.bx.low 0 _ b h0 hb
  ·intro i j ab ab' b hi hb hj hl
   obtain ⟨rfl,rfl⟩:=one _ _ _ hj
   cases hl
  ·intro j ab hj
   obtain ⟨rfl,rfl⟩:=one _ _ _ hj
   have:=h.bx.nd 0 _ h0
   exact this
  ·intro i j ab ab' b hi hj _ _
   obtain ⟨rfl,rfl⟩:=one _ _ _ hi
   obtain ⟨rfl,_⟩:=one _ _ _ hj
   rfl
theorem acalls_hole {P:Program} {f:FuncId} {l:List Int} {lo n b k:Nat}
  (h:∀ (w:World) (v:Value),(∀ x,b≤x→x<b+k→x<w.heap.size)→SL b k w 3 1 v→Calls P f #[v] w fun e w'=>e = .returned (.tuple #[])∧Spoil b k w w') :
  ACalls P f [.isl 0 (.slo 1 (ints l))] [.isle lo n (.hole b k true)] (fun av L=>av = .tup []∧L=[.isle lo n (.hole b k false)]):=by
 intro c vs hc hL hs hv
 have h0:([AB.isle lo n (.hole b k true)]:List AB)[0]? = some (.isle lo n (.hole b k true)):=rfl
 simp only [VRt] at hv
 obtain ⟨v,r,e,hv,rfl⟩:=hv
 simp only [VR] at hv
 obtain ⟨⟨ab,hab,har⟩,_⟩:=hv
 rw [h0] at hab
 cases hab
 obtain ⟨_,g1,g2,g3⟩:=har.2 1 _ rfl
 have hn:∀ x,b≤x→x<b+k→x<c.w0.heap.size:=fun x h1 h2=>hs.blt h0 (by simp only [AB.boxes,List.mem_range'_1];omega)
 have ev:vs = #[v]:=Array.ext' e
 subst ev
 refine (h c.w0 v hn g3).mono ?_
 rintro e w' ⟨rfl,hsp⟩
 exact ⟨_,.tup [],_,c.E0,rfl,⟨rfl,rfl⟩,(hs.spoilH hc g1 g2 hsp).1,by simp [VR,VRt]⟩
end Go.Ab
