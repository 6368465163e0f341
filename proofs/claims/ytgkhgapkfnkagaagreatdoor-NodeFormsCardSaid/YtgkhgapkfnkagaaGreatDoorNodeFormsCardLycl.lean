/- NodeFormsCard: abstract runs. -/
import Derived.Test.YtgkhgapkfnkagaaGreatDoorNodeFormsCardLyp
set_option linter.unusedVariables false
set_option linter.unusedSimpArgs false
namespace Go.Ab
open Go.RowKit
section
variable {P:Program} {tt:TypeId→Option TI} {fo:FuncId→Bool} {n k0:Nat}
theorem wpList_aop (ht:TTok P tt) (hz:ZOok tt) (hfo:FOok P fo) {c:Ctx} (hc:c.wf) {o:Oper} (hg:o.guard=none) (hdn:∀ x,o.dst=some x→x<c.n) {E:Nat→Option Nat} {F:AF} {L:List AB} {a:Act} {w:World} {K:AV→List AB→Prop}
  (h:aopK P tt fo o F L K) (hs:Sim c E F L a w) {ops:Array Oper} {r:List Oper} {Q:Exit→Act→World→Prop}
  (hk:∀ av L' E' a' w',K av L'→Sim c E' (fput F o.dst av) L' a' w'→wpList P ops Q r a' w'):wpList P ops Q (o :: r) a w :=
 wpList_plain hg fun _ hK'=>opRes_wp hdn (aopK_ok ht hz hfo hc h hs) fun av L' E' a' w' h1 h2=>hK' _ _ (hk av L' E' a' w' h1 h2)
theorem set_selfL {α:Type} {l:List α} {i:Nat} {x:α} (h:l[i]? = some x):l.set i x=l:=by
 obtain ⟨h1,rfl⟩:=List.getElem?_eq_some_iff.1 h
 exact List.set_getElem_self h1
theorem zeroCells_flat (z:Array Value):∀ (q:Nat),(Builtin.zeroCells z q).toList=(List.replicate q z.toList).flatten
 | 0=>by simp [Builtin.zeroCells]
 | q+1=>by
   rw [List.replicate_succ',List.flatten_append,← zeroCells_flat z q]
   apply List.ext_getElem
   ·simp [Builtin.zeroCells,Nat.add_mul]
   ·intro j h1 h2
    have h3:j<(q+1) * z.size:=by simpa [Builtin.zeroCells] using h1
    rw [List.getElem_append]
    by_cases hj:j<q * z.size
    ·rw [dif_pos (by simpa [Builtin.zeroCells] using hj)]
     simp [Builtin.zeroCells]
    ·rw [dif_neg (by simpa [Builtin.zeroCells] using hj)]
     have h4:j - q * z.size<z.size:=by rw [Nat.add_mul] at h3;omega
     have h5:j % z.size=j - q * z.size:=by
      obtain ⟨d,hd⟩:∃ d,j=d+q * z.size:=⟨j - q * z.size,by omega⟩
      rw [hd,Nat.add_mul_mod_self_right,Nat.add_sub_cancel,Nat.mod_eq_of_lt (by omega)]
     simp [Builtin.zeroCells,h5,h4]
theorem Cs_rep {α:Type} {r:α→Value→Prop} {xs:List α} {us:List Value} (h:Cs r xs us):∀ (q:Nat),Cs r (List.replicate q xs).flatten (List.replicate q us).flatten
 | 0=>by simp [Cs]
 | q+1=>by
   rw [List.replicate_succ,List.replicate_succ,List.flatten_cons,List.flatten_cons]
   exact Cs_append h (Cs_rep h q)
theorem Cs_one1 {α:Type} {r:α→Value→Prop}:∀ {xs:List α} {us:List Value},Cs r xs us→∀ v∈us,v.oneCell'=true
 | [],us,h,v,hv=>by simp only [Cs] at h;subst h;cases hv
 | x :: xs,us,h,v,hv=>by
   simp only [Cs] at h
   obtain ⟨u,us',rfl,h1,_,h2⟩:=h
   rcases List.mem_cons.1 hv with rfl|hv
   ·exact h1
   ·exact Cs_one1 h2 v hv
theorem aw_clear (ht:TTok P tt) (hz:ZOok tt) (hfo:FOok P fo) {id:Nat} {ops:Array Oper} {o0 o1 o2 o3:Oper} (hops:ops.toList=[o0,o1,o2,o3])
  {i k e m:Nat} {xs:List (List DV)} {t:TypeId} {F:AF} {L:List AB} {d2:Nat} {x0 x1:Operand} (hL:L[i]? = some (.row e m xs false)) (hk:k≤xs.length)
  (g0:o0.guard=none) (g1:o1.guard=none) (g2:o2.guard=none) (g3:o3.guard=none) (q0:∀ x,o0.dst=some x→x<n) (q1:∀ x,o1.dst=some x→x<n) (q2:o2.dst=some d2) (hd2:d2<n) (q3:o3.dst=none)
  (h0:aopK P tt fo o0 F L fun v L'=>v = .arr i∧L'=L) (h1:aopK P tt fo o1 (fput F o0.dst (.arr i)) L fun v L'=>v = .d (.int .i64 k)∧L'=L)
  (p2:o2.op = .slice t x0 (some x1) none none) (e0:ev (fput (fput F o0.dst (.arr i)) o1.dst (.d (.int .i64 k))) x0 = .arr i) (e1:ev (fput (fput F o0.dst (.arr i)) o1.dst (.d (.int .i64 k))) x1 = .d (.int .i64 k))
  (p3:o3.op = .call { callee := .builtin .clear,args := #[.tmp d2],argTypes := #[t] }) {ti:TI} (hti:tt t=some ti) {ei:TI} (he:ti.desc = .slice e) (hei:tt e=some ei) (hem:ei.size=m) (zd:List DV) (hzl:zd.length=m) (hzd:∀ rd,VDs rd zd ei.zero.cells.toList)
  {Q:Exit→AF→List AB→Prop} (hQ:Q .normal (fput (fput (fput F o0.dst (.arr i)) o1.dst (.d (.int .i64 k))) (some d2) (.d .any)) (L.set i (.row e m (xs.take k++List.replicate (xs.length - k) zd) false))) :
  AW P n k0 (.region id ops false) Q F L:=by
 intro c E a w hc hcn _ hs
 subst hcn
 refine wp_region_list ?_
 rw [hops]
 refine wpList_aop ht hz hfo hc g0 q0 h0 hs ?_
 rintro _ L1 E1 a1 w1 ⟨rfl,hL1⟩ hs1
 rw [hL1] at hs1
 refine wpList_aop ht hz hfo hc g1 q1 h1 hs1 ?_
 rintro _ L2 E2 a2 w2 ⟨rfl,hL2⟩ hs2
 rw [hL2] at hs2
 obtain ⟨hut,_⟩:=ht t ti hti
 obtain ⟨hue,info,j1,j2,j3,j4⟩:=ht e ei hei
 rw [he] at hut
 have hm:info.size=m:=by rw [j3,hem]
 have v0:=hs2.ev x0
 rw [e0] at v0
 simp only [VR] at v0
 have v1:=hs2.ev x1
 rw [e1] at v1
 simp only [VR,VD] at v1
 obtain ⟨ab,hab,har⟩:=v0
 rw [hL] at hab
 cases hab
 obtain ⟨hn0,hxl,hbr⟩:=hs2.h.blk i _ hL
 -- the slice's value, and the rest
 suffices H:∃ r w',(Instr.sliceAt t (a2.eval x0) (some (.int .i64 k)) none none).run P w2 = .ok r w2∧(∀ ty,(Builtin.clear_ #[t] ty #[r]).run P w2 = .ok (.tuple #[]) w') ∧
   SimH c E2 (L.set i (.row e m (xs.take k++List.replicate (xs.length - k) zd) false)) w'∧(rcOf c.M0 E2 L w2).le (rcOf c.M0 E2 (L.set i (.row e m (xs.take k++List.replicate (xs.length - k) zd) false)) w') by
  obtain ⟨r,w',r1,r2,r3,r4⟩:=H
  refine wpList_plain g2 fun K2 hK2 => ?_
  unfold Oper.wp
  rw [show (execOp a2.eval o2).run P w2 = .ok (.value r) w2 by simp [execOp,p2,v1,r1]]
  refine hK2 _ _ ?_
  refine wpList_plain g3 fun K3 hK3 => ?_
  unfold Oper.wp
  have hev:(a2.put o2.dst r).eval (.tmp d2)=r:=by
   rw [q2]
   show Array.getD (a2.tmps.setIfInBounds d2 r) d2 undef=r
   have:d2<a2.tmps.size:=by rw [hs2.nt];exact hd2
   simp [Array.getD,this]
  rw [show (execOp (a2.put o2.dst r).eval o3).run P w2 = .ok (.value (.tuple #[])) w' by simp [execOp,p3,resolve,invoke,builtin,hev,r2,Result.andThen]]
  refine hK3 _ _ ?_
  rw [q3,q2]
  refine ⟨E2,_,_,?_,hQ⟩
  have hs3:=hs2.put (some d2) (.d .any) r (fun x hx=>by cases hx;exact hd2) (by simp [VR,VD])
  exact ⟨r3,fun s=>VR.mono r4 _ _ (hs3.slots s),hs3.nt,hs3.df⟩
 have hlen:(xs.take k++List.replicate (xs.length - k) zd).length=xs.length:=by simp;omega
 cases hE:E2 i with
 | none =>
   rw [hE] at hbr
   replace hbr:xs=[]:=hbr
   subst hbr
   simp only [arRel,hE] at har
   obtain rfl:k=0:=by simpa using hk
   refine ⟨.slice none 0 0,w2,?_,?_,?_,?_⟩
   ·rw [har]
    have hb:=run_sliceBounds (P:=P) (w:=w2) true 0 0 (some (.int .i64 ((0:Nat):Int))) none 0 0 (by omega) (by omega) (by simp) (by omega) (.inr ⟨.i64,rfl⟩) (.inl ⟨rfl,rfl⟩)
    unfold Instr.sliceAt
    simp only [Sem.run_bind,run_underlying hut,Result.andThen_ok]
    unfold Instr.slice
    simp only [Sem.run_bind,run_underlying hut,Result.andThen_ok,hb,run_sizeOf j1]
    rfl
   ·intro ty
    simp [Builtin.clear_,run_underlying hut]
   ·rw [show L.set i (AB.row e m (([]:List (List DV)).take 0++List.replicate (([]:List (List DV)).length - 0) zd) false)=L from set_selfL hL]
    exact hs2.h
   ·rw [show L.set i (AB.row e m (([]:List (List DV)).take 0++List.replicate (([]:List (List DV)).length - 0) zd) false)=L from set_selfL hL]
    exact RC.le.refl _
 | some b =>
   rw [hE] at hbr
   obtain ⟨cap0,cur0,b1,b2,b3,b4,b5⟩:=hbr
   simp only [arRel,hE] at har
   obtain ⟨cap,cur,har,hh,hsz⟩:=har
   have hcc:cur0=cur:=by rw [b1] at hh;cases hh;rfl
   rw [hcc] at b1 b2 b5
   clear hcc cur0
   have ecap:cap=cap0:=Nat.eq_of_mul_eq_mul_right hn0.1 (hsz.symm.trans b2)
   subst ecap
   have hb:=run_sliceBounds (P:=P) (w:=w2) true xs.length cap (some (.int .i64 (k:Int))) none k xs.length (by omega) (by omega) (by omega) b3 (.inr ⟨.i64,rfl⟩) (.inl ⟨rfl,rfl⟩)
   have hsl:(Instr.sliceAt t (a2.eval x0) (some (.int .i64 k)) none none).run P w2 = .ok (.slice (if cap=k then some ⟨b,0,none⟩ else (some (⟨b,0,none⟩:Addr)).map (·.add (k * m))) (xs.length - k) (cap - k)) w2:=by
    rw [har]
    unfold Instr.sliceAt
    simp only [Sem.run_bind,run_underlying hut,Result.andThen_ok]
    unfold Instr.slice
    simp only [Sem.run_bind,run_underlying hut,Result.andThen_ok,hb,run_sizeOf j1,hm]
    simp
   rcases Nat.lt_or_ge k xs.length with hlt|hge
   ·rw [if_neg (by omega)] at hsl
    rw [show (some (⟨b,0,none⟩:Addr)).map (·.add (k * m))=some ⟨b,k * m,none⟩ by simp [add_lit]] at hsl
    have hzc:(Builtin.zeroCells ei.zero.cells (xs.length - k)).toList.length=(xs.length - k) * m:=by
     rw [Array.length_toList,size_zeroCells,hz e ei hei,hem]
    have hfit:k * m+(xs.length - k) * m≤cur.size:=by
     rw [← Nat.add_mul,b2,show k+(xs.length - k)=xs.length by omega]
     exact Nat.mul_le_mul_right _ b3
    have h1c:∀ v∈(Builtin.zeroCells ei.zero.cells (xs.length - k)).toList,v.oneCell'=true:=by
     rw [zeroCells_flat]
     exact Cs_one1 (Cs_rep (hzd (fun _ _=>False)) _)
    have hst:=run_storeCells_at P b (k * m) e (Builtin.zeroCells ei.zero.cells (xs.length - k)).toList 0 cur w2 b1 (by rw [hzc];simpa using hfit) h1c
    rw [Nat.add_zero] at hst
    obtain ⟨cur',hc'⟩:∃ cur':Array Value,(cur.toList.take (k * m)++(Builtin.zeroCells ei.zero.cells (xs.length - k)).toList++cur.toList.drop (k * m+(Builtin.zeroCells ei.zero.cells (xs.length - k)).toList.length)).toArray=cur':=⟨_,rfl⟩
    rw [hc'] at hst
    have hrw:=hs2.h.rewrite (cur':=cur') (zs:=xs.take k++List.replicate (xs.length - k) zd) hL hE b1 (by
     rw [← hc'];simp only [List.size_toArray,List.length_append,List.length_take,List.length_drop,Array.length_toList,hzc];omega) hlen (by
     intro cs hcs
     rcases List.mem_append.1 hcs with h|h
     ·exact hxl cs (List.mem_of_mem_take h)
     ·rw [List.eq_of_mem_replicate h,hzl]) (by
     rw [hlen,← hc',zeroCells_flat,List.flatten_append]
     have l1:(cur.toList.take (k * m)).length=k * m:=by rw [List.length_take,Array.length_toList];omega
     have l2:(List.replicate (xs.length - k) ei.zero.cells.toList).flatten.length=(xs.length - k) * m:=by rw [← zeroCells_flat,hzc]
     have e1:xs.length * m=k * m+(xs.length - k) * m:=by rw [← Nat.add_mul];congr 1;omega
     rw [e1,List.take_left' (by rw [List.length_append,l1,l2])]
     refine Cs_append ?_ (Cs_rep (hzd _) _)
     rw [flatten_takeN xs hxl k]
     have:=Cs_take (k * m) b5
     rwa [List.take_take,Nat.min_eq_left (by omega)] at this)
    refine ⟨_,_,hsl,fun ty => ?_,hrw.1,hrw.2⟩
    obtain ⟨q,hq⟩:∃ q,xs.length - k=q+1:=⟨xs.length - k - 1,by omega⟩
    rw [hq] at hst ⊢
    have hzv:(zeroValue e).run P w2 = .ok ei.zero w2:=by simp [zeroValue,typeInfo,j1,j2]
    simp [Builtin.clear_,run_underlying hut,hzv,hst]
   ·obtain rfl:k=xs.length:=by omega
    refine ⟨_,w2,hsl,fun ty => ?_,?_,?_⟩
    ·rw [Nat.sub_self]
     split<;>simp [Builtin.clear_,run_underlying hut]
    ·rw [show L.set i (AB.row e m (xs.take xs.length++List.replicate (xs.length - xs.length) zd) false)=L from by rw [List.take_length,Nat.sub_self];simpa using set_selfL hL]
     exact hs2.h
    ·rw [show L.set i (AB.row e m (xs.take xs.length++List.replicate (xs.length - xs.length) zd) false)=L from by rw [List.take_length,Nat.sub_self];simpa using set_selfL hL]
     exact RC.le.refl _
end
end Go.Ab
set_option linter.unusedVariables false
set_option linter.unusedSimpArgs false
namespace Go.Ab
open Go.RowKit
section
variable {P:Program} {tt:TypeId→Option TI} {fo:FuncId→Bool} {n k0:Nat}
end
end Go.Ab
set_option linter.unusedVariables false
set_option linter.unusedSimpArgs false
namespace Go.Ab
open Go.RowKit
variable {P:Program} {tt:TypeId→Option TI} {fo:FuncId→Bool} {n k0:Nat}
end Go.Ab
set_option linter.unusedVariables false
set_option linter.unusedSimpArgs false
namespace Go.Ab
open Go.RowKit
theorem acalls_via {P:Program} {f:FuncId} {avs:List AV} {L L1:List AB} {post:AV→List AB→Prop} (ps:List (Nat×Nat)) (hs:sealsAt ps L=some L1) (h:callRawK P f avs L1 post):ACalls P f avs L post:=by
 intro c vs hc hL hsim hv
 obtain ⟨s1,l1⟩:=sealsAt_ok hc hsim hs
 refine (callRawK_ok hc s1 h (VRt.mono l1 _ _ hv)).mono ?_
 rintro e w' ⟨v,av,E',L',h1,h2,h3,h4,h5⟩
 exact ⟨v,av,L',E',h1,h2,h3,h5⟩
end Go.Ab
