/- PrimaryExact: abstract runs. -/
import Derived.Test.YtolkmjfkkkiboaaGreatPrimaryExactLysp
import Derived.ArgAppend
set_option linter.all false
namespace Go.Ab
open Go.RowKit
theorem ez {P:Program} (w:World) {ops:Array Oper} {rest:List Oper} {o:Oper} {a:Act} {Q:Exit->Act->World->Prop}
  (hg:o.guard=none) (s x:Operand) (t:TypeId) (WD:o.op=Op.call { callee:=Callee.builtin Builtin.append,args := #[s,x],argTypes := #[t,t] })
  (e:TypeId) (i:TypeInfo) (z:Value) (size bytes:Nat) (h1:P.underlying t=some (.slice e)) (h2:P.info? e=some i) (h3:i.zero=some z) (h4:i.size=size) (h5:i.bytes=bytes) (h6:z.cells.size=size) (h7:0<size)
  {lo n k:Nat} {v:Value} (hv:SL lo n w (k+1) size v) (hs:a.eval s=v)
  (ad:Addr) (c:Nat) (news:List Value) (hx:a.eval x = .slice (some ad) 1 c) (hn:news.length=size) (hc:∀ j u,news[j]? = some u->w.cell? (ad.add j)=some u) (yW:∀ u∈news,u.oneCell'=true)
  (htr:∀ (j:Nat) (u:Value) (sh:Sh),news[j]? = some u->(Hn size)[j]? = some sh->IQ sh u) (AE:4294967297 * bytes<=140737488355328) (jl:∀ b,lo<=b->b<lo+n->b<w.heap.size)
  (hk:∀ v' w',aY lo n w w'->w.heap.size<=w'.heap.size->wpList P ops Q rest (a.put o.dst v') w'):wpList P ops Q (o :: rest) a w:=by
 obtain ⟨p,len,cap,rfl,k1,⟨k2,k3⟩,k4⟩:=hv;have hm:(len+1) * bytes<=140737488355328:=fS (lT _ oM) AE;have xu:len+1<=maxLen:=by unfold maxLen;omega
 rcases k4 with rfl|⟨q,rfl,q2,q3,q4,⟨cur,e',mk,q5,q6,q7,q8,q9⟩,ln⟩
 ·obtain rfl:len=0:=oM;refine wpList_append_grows w hg s x t WD e i z size bytes h1 h2 h3 h4 h5 h6 h7 p 0 0 [] hs (λ_=>⟨rfl,rfl⟩) (by simp) (λb _ j u hu=>by simp at hu) ad 1 c news hx oM hc yW oM xu hm ?_;intro v' w' _ oO;have hkp:aO w w':=⟨oO.os,oO.tape,oO.output,oO.size,λb hb=>oO.block b hb (λh=>by cases h)⟩;exact hk v' w' (aY.keeps jl hkp) oO.size
 ·have bB:q.block<w.heap.size:=(ud.1 q5).1;have hq:q=⟨q.block,q.off,none⟩:=(jF q q2).symm;have tE:∀ j,w.cell? ⟨q.block,j,none⟩=cur[j]? := λj=>cell_of_row w q.block j cur e' mk q5;have hle:q.off+len * size<=cur.size:=fS (Nat.add_le_add_left (lT _ k1) _) q9;refine wpList_append_arg w hg s x t WD e i z size bytes h1 h2 h3 h4 h5 h6 h7 q.block q.off len cap ((cur.toList.drop q.off).take (len * size)) (by rw [hs,<-hq]) ?_ ?_ ad 1 c news hx oM hc yW ?_ xu hm ?_ ?_
  ·rw [mw,tf,lU];omega
  ·intro j u hu;rw [tE];rw [nX] at hu;split at hu
   ·rw [Dt] at hu;simpa using hu
   ·cases hu
  ·intro hr j hj;have h9:q.off+(len+1) * size<=cur.size:=fS (Nat.add_le_add_left (lT _ hr) _) q9;rw [qu] at h9;have dM:q.off+len * size+j<cur.size:=oM;refine ⟨by rw [tE,ZE dM];rfl,?_⟩;have hq6:=q6 _ dM;unfold World.frozen?;rw [q5];show (decide (mk.1<=q.off+len * size+j)&&decide (q.off+len * size+j<mk.2))=false;by_cases hp:mk.1<=q.off+len * size+j
   ·rw [aP (p:=q.off+len * size+j<mk.2) λh=>hq6 ⟨hp,h⟩,Bool.and_false]
   ·rw [aP hp,Bool.false_and]
  ·intro hr;refine hk _ _ ?_ ?_
   ·refine aY.cells q3 q4 news _ w cur q5 λj u hj sh hs=>?_;have dM:j<size:=by rw [<-hn];exact (dW.1 hj).1
    refine htr j u sh hj ?_;rw [q7] at hs;have:(q.off+len * size+j) % size=j:=by
     rw [zfD,zdA,Nat.add_mod,q8,gP,Nat.mod_mod,zd3 dM]
    rwa [this] at hs
   ·exact (aY.cells q3 q4 news _ w cur q5 λj u hj sh hs=>by
     have dM:j<size:=by rw [<-hn];exact (dW.1 hj).1
     refine htr j u sh hj ?_;rw [q7] at hs;have:(q.off+len * size+j) % size=j:=by
      rw [zfD,zdA,Nat.add_mod,q8,gP,Nat.mod_mod,zd3 dM]
     rwa [this] at hs).size
  ·intro hr v' w' _ oO;have hkp:aO w w':=⟨oO.os,oO.tape,oO.output,oO.size,λb hb=>oO.block b hb (λh=>by cases h)⟩;exact hk v' w' (aY.keeps jl hkp) oO.size
end Go.Ab
