/- NodeFormsCard: abstract runs. -/
import Derived.Test.YtgkhgapkfnkagaaGreatDoorNodeFormsCardLye11
set_option linter.unusedVariables false
set_option linter.unusedSimpArgs false
namespace Go.Ab
noncomputable section
open Go.RowKit
structure Gh where
 i:Nat
 b:Nat
 o:Obj
structure Link (c:Ctx) (gs:List Gh) (c2:Ctx):Prop where
 wf:c2.wf
 n:c2.n=c.n
 P:∀ b,c2.P0 b↔c.P0 b∨∃ g∈gs,g.b=b
 M:∀ b o,c2.M0.m b o↔c.M0.m b o∨∃ g∈gs,g.b=b
 s:c2.M0.s=c.M0.s
 os:c2.w0.os=c.w0.os
 tape:c2.w0.tape=c.w0.tape
 output:c2.w0.output=c.w0.output
 size:c.w0.heap.size≤c2.w0.heap.size
 prot:∀ b,c.P0 b→c2.w0.heap[b]? = c.w0.heap[b]?
 old:(rcOf c.M0 c.E0 c.L0 c.w0).le (rcOf c2.M0 c2.E0 c2.L0 c2.w0)
 lk:Likes c.w0 c2.w0
 gh:∀ g∈gs,c2.w0.heap[g.b]? = some g.o∧c.w0.heap.size≤g.b
 nd:(gs.map (·.b)).Nodup
theorem Link.refl {c:Ctx} (hc:c.wf):Link c [] c:=⟨hc,rfl,fun b=>by simp,fun b o=>by simp,rfl,rfl,rfl,rfl,Nat.le_refl _,fun _ _=>rfl,RC.le.refl _,Likes.refl _,fun g hg=>(by cases hg),List.nodup_nil⟩
theorem Link.ghost {c:Ctx} {gs:List Gh} {c2:Ctx} (k:Link c gs c2) {E:Nat→Option Nat} {F:AF} {L:List AB} {a:Act} {w:World} (h:Sim c2 E F L a w) (i:Nat) (o:Obj) :
  ∃ c3,Link c (⟨i,w.heap.size,o⟩ :: gs) c3∧Sim c3 E F L a (w.alloc o):=by
 have kp:=Keeps.alloc w o
 have hlow:∀ x,c2.P0 x→x<w.heap.size:=fun x hx=>Nat.lt_of_lt_of_le (k.wf.low x hx) h.h.size
 have hsz:(w.alloc o).heap.size=w.heap.size+1:=by simp
 let c3:Ctx:={ w0:=w.alloc o,P0:=fun x=>c2.P0 x∨x=w.heap.size,M0:=⟨fun x o=>c2.M0.m x o∨x=w.heap.size,c2.M0.s⟩,E0:=E,L0:=L,n:=c2.n }
 have lk:=le_keeps (c:=c2) (E:=E) (L:=L) h.h.bl kp
 have hle:(rcOf c2.M0 E L w).le (rcOf c3.M0 E L (w.alloc o)):=by
  refine ⟨rdle rfl kp.likes fun a u h1 h2=>⟨kp.cell h1,?_⟩,lk.pt,lk.ar,lk.ap,lk.is⟩
  rintro ((hm|hm)|hm|hm)
  ·exact h2 (.inl hm)
  ·have:=cell?_lt h1
   omega
  ·exact h2 (.inr (.inl hm))
  ·exact h2 (.inr (.inr hm))
 refine ⟨c3,⟨⟨?_,?_,?_⟩,k.n,?_,?_,k.s,kp.os.trans (h.h.os.trans k.os),kp.tape.trans (h.h.tape.trans k.tape),kp.output.trans (h.h.output.trans k.output),Nat.le_trans k.size (Nat.le_trans h.h.size kp.size),?_,k.old.trans (h.h.old.trans hle),k.lk.trans (h.h.lk.trans kp.likes),?_,?_⟩,
  ⟨⟨rfl,rfl,rfl,Nat.le_refl _,fun _ _=>rfl,fun j ab hj=>BR.mono hle (h.h.blk j ab hj) (fun x he hl=>kp.block x (h.h.lt hj hl he)) (fun x hx=>kp.block x (h.h.blt hj hx)),?_,h.h.inj,RC.le.refl _,⟨?_,h.h.bx.own,h.h.bx.nd,h.h.bx.dj⟩,Likes.refl _,h.h.up⟩,fun s=>VR.mono hle _ _ (h.slots s),h.nt,h.df⟩⟩
 ·rintro x (hp|rfl)
  ·have:=hlow x hp
   show x<(w.alloc o).heap.size
   omega
  ·show w.heap.size<(w.alloc o).heap.size
   omega
 ·rintro x y (hm|rfl)
  ·exact .inl (k.wf.sub x y hm)
  ·exact .inr rfl
 ·intro s hs
  exact Nat.le_trans (k.wf.sle s hs) (Nat.le_trans h.h.size kp.size)
 ·intro x
  constructor
  ·rintro (hp|rfl)
   ·rcases (k.P x).1 hp with hp|⟨g,hg,rfl⟩
    ·exact .inl hp
    ·exact .inr ⟨g,List.mem_cons_of_mem _ hg,rfl⟩
   ·exact .inr ⟨_,List.mem_cons_self,rfl⟩
  ·rintro (hp|⟨g,hg,rfl⟩)
   ·exact .inl ((k.P x).2 (.inl hp))
   ·rcases List.mem_cons.1 hg with rfl|hg
    ·exact .inr rfl
    ·exact .inl ((k.P g.b).2 (.inr ⟨g,hg,rfl⟩))
 ·intro x y
  constructor
  ·rintro (hp|rfl)
   ·rcases (k.M x y).1 hp with hp|⟨g,hg,rfl⟩
    ·exact .inl hp
    ·exact .inr ⟨g,List.mem_cons_of_mem _ hg,rfl⟩
   ·exact .inr ⟨_,List.mem_cons_self,rfl⟩
  ·rintro (hp|⟨g,hg,rfl⟩)
   ·exact .inl ((k.M x y).2 (.inl hp))
   ·rcases List.mem_cons.1 hg with rfl|hg
    ·exact .inr rfl
    ·exact .inl ((k.M g.b y).2 (.inr ⟨g,hg,rfl⟩))
 ·intro x hx
  have hx2:=(k.P x).2 (.inl hx)
  exact (kp.block x (hlow x hx2)).trans ((h.h.prot x hx2).trans (k.prot x hx))
 ·intro g hg
  rcases List.mem_cons.1 hg with rfl|hg
  ·exact ⟨heap_alloc_new w o,Nat.le_trans k.size h.h.size⟩
  ·have hx2:=(k.P g.b).2 (.inr ⟨g,hg,rfl⟩)
   exact ⟨(kp.block g.b (hlow _ hx2)).trans ((h.h.prot _ hx2).trans (k.gh g hg).1),(k.gh g hg).2⟩
 ·simp only [List.map_cons,List.nodup_cons]
  refine ⟨fun hm => ?_,k.nd⟩
  obtain ⟨g,hg,e⟩:=List.mem_map.1 hm
  have:=hlow g.b ((k.P g.b).2 (.inr ⟨g,hg,rfl⟩))
  omega
 ·rintro j ab x hj hl he (hp|rfl)
  ·exact h.h.low j ab x hj hl he hp
  ·exact Nat.lt_irrefl _ (h.h.lt hj hl he)
 ·rintro j ab x hj hx (hp|rfl)
  ·exact h.h.bx.low j ab x hj hx hp
  ·exact Nat.lt_irrefl _ (h.h.blt hj hx)
theorem Link.adopt {c:Ctx} (hc:c.wf) {gs:List Gh} {c2:Ctx} (k:Link c gs c2) {E:Nat→Option Nat} {F:AF} {L:List AB} {a:Act} {w:World} (h:Sim c2 E F L a w) {g:Gh} (hg:g∈gs) {nb:AB} (hnb:nb.boxes=[]) (hbr:∀ (M:MZ) (E:Nat→Option Nat) (L':List AB) (w:World),w.heap[g.b]? = some g.o→BR (rcOf M E L' w) w (some g.b) nb)
  {d:Nat} {v:AV} (hv:∀ (M:MZ) (E:Nat→Option Nat) (L':List AB) (w:World),L'[L.length]? = some nb→E L.length=some g.b→w.heap[g.b]? = some g.o→VR (rcOf M E L' w) v (a.tmps.getD d undef)) :
  ∃ c3 E',Link c (gs.filter fun x => !(Nat.beq x.b g.b)) c3∧Sim c3 E' ((d,v) :: F) (L++[nb]) a w:=by
 have hmem:∀ x,x∈(gs.filter fun x => !(Nat.beq x.b g.b))↔x∈gs∧x.b≠g.b:=by
  intro x
  simp only [List.mem_filter,Bool.not_eq_true']
  constructor
  ·rintro ⟨h1,h2⟩
   exact ⟨h1,fun e=>by rw [e,Nat.beq_refl] at h2;cases h2⟩
  ·rintro ⟨h1,h2⟩
   exact ⟨h1,Bool.eq_false_iff.2 fun e=>h2 (Nat.eq_of_beq_eq_true e)⟩
 generalize hgs':(gs.filter fun x => !(Nat.beq x.b g.b))=gs' at hmem ⊢
 have hnd':(gs'.map (·.b)).Nodup:=by rw [← hgs'];exact k.nd.sublist (List.filter_sublist.map _)
 let c3:Ctx:={ w0:=w,P0:=fun x=>c.P0 x∨∃ g'∈gs',g'.b=x,M0:=⟨fun x o=>c.M0.m x o∨∃ g'∈gs',g'.b=x,c.M0.s⟩,E0:=Eupd E L.length (some g.b),L0:=L++[nb],n:=c2.n }
 have hgP:c2.P0 g.b:=(k.P g.b).2 (.inr ⟨g,hg,rfl⟩)
 have hgM:∀ o,c2.M0.m g.b o:=fun o=>(k.M g.b o).2 (.inr ⟨g,hg,rfl⟩)
 have hP:∀ x,c3.P0 x→c2.P0 x∧x≠g.b:=by
  rintro x (hp|⟨g',hg',rfl⟩)
  ·refine ⟨(k.P x).2 (.inl hp),?_⟩
   rintro rfl
   have:=hc.low _ hp
   have:=(k.gh g hg).2
   omega
  ·exact ⟨(k.P g'.b).2 (.inr ⟨g',((hmem g').1 hg').1,rfl⟩),((hmem g').1 hg').2⟩
 have hM:∀ x y,c3.M0.m x y→c2.M0.m x y:=by
  rintro x y (hp|⟨g',hg',rfl⟩)
  ·exact (k.M x y).2 (.inl hp)
  ·exact (k.M g'.b y).2 (.inr ⟨g',((hmem g').1 hg').1,rfl⟩)
 have hheap:w.heap[g.b]? = some g.o:=by rw [h.h.prot g.b hgP,(k.gh g hg).1]
 have hlt:∀ {j:Nat} {ab:AB},L[j]? = some ab→j<L.length:=fun hj=>(List.getElem?_eq_some_iff.1 hj).1
 have hEo:∀ {j:Nat},j≠L.length→Eupd E L.length (some g.b) j=E j:=fun hj=>by simp only [Eupd];rw [if_neg hj]
 have hEn:Eupd E L.length (some g.b) L.length=some g.b:=by simp [Eupd]
 have look:∀ {j:Nat} {ab:AB},(L++[nb])[j]? = some ab→(j=L.length∧ab=nb)∨(j≠L.length∧L[j]? = some ab):=by
  intro j ab hj
  by_cases hjl:j=L.length
  ·subst hjl
   simp at hj
   exact .inl ⟨rfl,hj.symm⟩
  ·exact .inr ⟨hjl,getElem?_push_lt hj hjl⟩
 have hle:(rcOf c2.M0 E L w).le (rcOf c3.M0 (Eupd E L.length (some g.b)) (L++[nb]) w):=by
  refine ⟨rdle k.s.symm (Likes.refl _) fun a u h1 h2=>⟨h1,?_⟩,?_,?_,?_,?_⟩
  ·rintro (hm|⟨j,ab,hj,he,hm⟩|⟨j,ab,hj,hm⟩)
   ·exact h2 (.inl (hM _ _ hm))
   ·rcases look hj with ⟨rfl,rfl⟩|⟨hjl,hj'⟩
    ·rw [hEn] at he
     exact h2 (.inl (by rw [← Option.some.inj he];exact hgM _))
    ·rw [hEo hjl] at he
     exact h2 (.inr (.inl ⟨j,ab,hj',he,hm⟩))
   ·rcases look hj with ⟨rfl,rfl⟩|⟨hjl,hj'⟩
    ·rw [hnb] at hm;cases hm
    ·exact h2 (.inr (.inr ⟨j,ab,hj',hm⟩))
  ·rintro j x ⟨ab,h1,h2,h3⟩
   have:=hlt h1
   exact ⟨ab,by rw [List.getElem?_append_left this];exact h1,h2,by rw [hEo (by omega)];exact h3⟩
  ·rintro j v ⟨ab,h1,h2⟩
   have:=hlt h1
   refine ⟨ab,by rw [List.getElem?_append_left this];exact h1,?_⟩
   have he:=hEo (j:=j) (by omega)
   cases ab with
   | cells cs=>simp only [arRel] at h2 ⊢;rw [he];exact h2
   | map es=>exact h2
   | pool b cs=>exact h2
   | obj o=>exact h2
   | obs o n cap=>simp only [arRel] at h2 ⊢;rw [he];exact h2
   | dead=>exact h2
   | isle lo n ok=>exact h2.elim
   | row e n xs sh=>simp only [arRel] at h2 ⊢;rw [he];exact h2
  ·rintro j x y v ⟨ab,h1,h2⟩
   have:=hlt h1
   refine ⟨ab,by rw [List.getElem?_append_left this];exact h1,?_⟩
   have he:=hEo (j:=j) (by omega)
   cases ab with
   | cells cs=>exact h2
   | map es=>exact h2
   | pool b cs=>exact h2
   | obj o=>exact h2
   | obs o n cap=>exact h2
   | dead=>exact h2
   | isle lo n ok=>exact h2.elim
   | row e n xs sh=>simp only [apRel] at h2 ⊢;rw [he];exact h2
  ·rintro j x v ⟨ab,h1,h2⟩
   have:=hlt h1
   exact ⟨ab,by rw [List.getElem?_append_left this];exact h1,h2⟩
 refine ⟨c3,Eupd E L.length (some g.b),⟨⟨?_,?_,?_⟩,k.n,fun _=>Iff.rfl,fun _ _=>Iff.rfl,rfl,h.h.os.trans k.os,h.h.tape.trans k.tape,h.h.output.trans k.output,Nat.le_trans k.size h.h.size,?_,k.old.trans (h.h.old.trans hle),k.lk.trans h.h.lk,?_,hnd'⟩,
  ⟨⟨rfl,rfl,rfl,Nat.le_refl _,fun _ _=>rfl,?_,?_,?_,RC.le.refl _,⟨?_,?_,?_,?_⟩,Likes.refl _,?_⟩,?_,h.nt,h.df⟩⟩
 ·intro x hx
  exact Nat.lt_of_lt_of_le (k.wf.low x (hP x hx).1) h.h.size
 ·rintro x y (hm|hm)
  ·exact .inl (hc.sub x y hm)
  ·exact .inr hm
 ·intro s hs
  exact Nat.le_trans (k.wf.sle s (k.s.trans hs)) h.h.size
 ·intro x hx
  exact (h.h.prot x ((k.P x).2 (.inl hx))).trans (k.prot x hx)
 ·intro g' hg'
  have h1:=((hmem g').1 hg').1
  exact ⟨(h.h.prot _ ((k.P g'.b).2 (.inr ⟨g',h1,rfl⟩))).trans (k.gh g' h1).1,(k.gh g' h1).2⟩
 ·intro j ab hj
  rcases look hj with ⟨rfl,rfl⟩|⟨hjl,hj'⟩
  ·show BR _ w (Eupd E L.length (some g.b) L.length) ab
   rw [hEn]
   exact hbr _ _ _ w hheap
  ·rw [hEo hjl]
   exact BR.mono hle (h.h.blk j ab hj') (fun _ _ _=>rfl) (fun _ _=>rfl)
 ·intro j ab x hj hl he hp
  rcases look hj with ⟨rfl,rfl⟩|⟨hjl,hj'⟩
  ·rw [hEn] at he
   cases he
   exact (hP _ hp).2 rfl
  ·rw [hEo hjl] at he
   exact h.h.low j ab x hj' hl he (hP _ hp).1
 ·intro i j ab ab' x hi hj hl hl' he he'
  rcases look hi with ⟨rfl,rfl⟩|⟨hil,hi'⟩<;>rcases look hj with ⟨rfl,rfl⟩|⟨hjl,hj'⟩
  ·rfl
  ·rw [hEn] at he
   cases he
   rw [hEo hjl] at he'
   exact absurd hgP (h.h.low j ab' _ hj' hl' he')
  ·rw [hEn] at he'
   cases he'
   rw [hEo hil] at he
   exact absurd hgP (h.h.low i ab _ hi' hl he)
  ·rw [hEo hil] at he
   rw [hEo hjl] at he'
   exact h.h.inj i j ab ab' x hi' hj' hl hl' he he'
 ·intro j ab x hj hx hp
  rcases look hj with ⟨rfl,rfl⟩|⟨hjl,hj'⟩
  ·rw [hnb] at hx;cases hx
  ·exact h.h.bx.low j ab x hj' hx (hP _ hp).1
 ·intro i j ab ab' x hi hx hj hl he
  rcases look hi with ⟨rfl,rfl⟩|⟨hil,hi'⟩
  ·rw [hnb] at hx;cases hx
  ·rcases look hj with ⟨rfl,rfl⟩|⟨hjl,hj'⟩
   ·rw [hEn] at he
    cases he
    exact h.h.bx.low i ab _ hi' hx hgP
   ·rw [hEo hjl] at he
    exact h.h.bx.own i j ab ab' x hi' hx hj' hl he
 ·intro i ab hi
  rcases look hi with ⟨rfl,rfl⟩|⟨hil,hi'⟩
  ·rw [hnb];exact List.nodup_nil
  ·exact h.h.bx.nd i ab hi'
 ·intro i j ab ab' x hi hj hx hx'
  rcases look hi with ⟨rfl,rfl⟩|⟨hil,hi'⟩
  ·rw [hnb] at hx;cases hx
  ·rcases look hj with ⟨rfl,rfl⟩|⟨hjl,hj'⟩
   ·rw [hnb] at hx';cases hx'
   ·exact h.h.bx.dj i j ab ab' x hi' hj' hx hx'
 ·intro s0 hs0 i e n xs sh x hi he
  rcases look hi with ⟨rfl,hx⟩|⟨hil,hi'⟩
  ·rw [hEn] at he
   cases he
   exact Nat.le_trans (hc.sle s0 hs0) (k.gh g hg).2
  ·rw [hEo hil] at he
   exact h.h.up s0 (k.s.trans hs0) i e n xs sh x hi' he
 ·intro s
  rw [fget_cons]
  cases hb:Nat.beq d s with
  | true =>
    rw [← Nat.eq_of_beq_eq_true hb,cond_true]
    exact hv _ _ _ _ (by simp) hEn hheap
  | false=>exact VR.mono hle _ _ (h.slots s)
theorem Link.out {c:Ctx} {gs:List Gh} {c2:Ctx} (k:Link c gs c2) {E:Nat→Option Nat} {F:AF} {L:List AB} {a:Act} {w:World} (h:Sim c2 E F L a w):Sim c E F L a w:=by
 have hle:(rcOf c2.M0 E L w).le (rcOf c.M0 E L w):=by
  refine ⟨rdle k.s.symm (Likes.refl _) fun a u h1 h2=>⟨h1,?_⟩,fun _ _ h=>h,fun _ _ h=>h,fun _ _ _ _ h=>h,fun _ _ _ h=>h⟩
  rintro (hm|hm)
  ·exact h2 (.inl ((k.M _ _).2 (.inl hm)))
  ·exact h2 (.inr hm)
 exact ⟨⟨h.h.os.trans k.os,h.h.tape.trans k.tape,h.h.output.trans k.output,Nat.le_trans k.size h.h.size,fun x hx=>(h.h.prot x ((k.P x).2 (.inl hx))).trans (k.prot x hx),fun j ab hj=>BR.mono hle (h.h.blk j ab hj) (fun _ _ _=>rfl) (fun _ _=>rfl),
  fun j ab x hj hl he hp=>h.h.low j ab x hj hl he ((k.P x).2 (.inl hp)),h.h.inj,k.old.trans (h.h.old.trans hle),⟨fun j ab x hj hx hp=>h.h.bx.low j ab x hj hx ((k.P x).2 (.inl hp)),h.h.bx.own,h.h.bx.nd,h.h.bx.dj⟩,k.lk.trans h.h.lk,fun s0 hs0=>h.h.up s0 (k.s.trans hs0)⟩,
  fun s=>VR.mono hle _ _ (h.slots s),h.nt.trans k.n,h.df⟩
end
end Go.Ab
