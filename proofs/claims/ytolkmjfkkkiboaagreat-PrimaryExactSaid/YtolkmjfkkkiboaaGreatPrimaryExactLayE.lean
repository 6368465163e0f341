/- PrimaryExact: abstract runs. -/
import Derived.Test.YtolkmjfkkkiboaaGreatPrimaryExactLayD
import Derived.Lib.AppendStr
import Derived.Laws.MakeOwn
import Derived.Laws.StructEq
set_option linter.all false
namespace Go.Ab
noncomputable section
open Go.RowKit
def A0 (tt:TypeId->Option TI) (t t':TypeId) (L:List AB) (s x:AV) (K:AV->List AB->Prop):Prop :=
 lN tt t λi=>match bY i.desc with
  | some e=>lN tt e λei=>lN tt t' λni=>bif Nat.beq ei.size 1&&Nat.ble 1 ei.bytes&&jI ni.desc then match x with
     | .d (.str bs)=>match s with
       | .arr j=>fC L j λab=>match ab with
         | .row e' m xs sh=>bif Nat.beq m 1&&Nat.beq e' e then (xs.length+bs.size) * ei.bytes<=140737488355328 /\
            kZ L j .dead λL1=>gU L1 (.row e 1 (xs++oa bs.data.toList) sh) 0 λj' L'=>K (.arr j') L' else False
         | _=>False
       | _=>False
     | _=>False
     else False
  | none=>False
theorem jK {P:Program} (w:World) (t tn ty e:TypeId) (i:TypeInfo) (ht:P.underlying t=some (.slice e)) (yH:P.underlying tn=some .string) (hi:P.info? e=some i)
  (base:Option Addr) (qP xI:Nat) (h:qP<=xI) (s:ByteArray) (h0:s.size=0) :
  (Builtin.append_ #[t,tn] ty #[.slice base qP xI,.string s]).run P w = .ok (.slice base qP xI) w:=by
 have hf:=Lib.run_firstCells_string (P:=P) w i.size s;have hs:Lib.strCells s=[]:=oy (by rw [Lib.strCells_length,h0]);rw [h0,hs] at hf
 cases base<;>simp [Builtin.append_,run_underlying ht,run_underlying yH,sizeOf,typeInfo,hi,Builtin.lenOf,h0,h,hf,storeCells]
theorem H0 {P:Program} {tt:TypeId->Option TI} (ht:cp P tt) (hzo:∀ e ei,tt e=some ei->ei.zero.cells.size=ei.size) {t t':TypeId} {c:Ctx} (hc:c.wf) {E:Nat->Option Nat} {L:List AB} {w:World} (hs:aI c E L w) {s x:AV} {K:AV->List AB->Prop} (h:A0 tt t t' L s x K) (ty:TypeId)
  {v u:Value} (hv:VR (aj c.M0 E L w) s v) (Aw:VR (aj c.M0 E L w) x u) :
  ∃ r w' E' av L',(Builtin.append_ #[t,t'] ty #[v,u]).run P w = .ok r w'/\K av L'/\aI c E' L' w'/\(aj c.M0 E L w).le (aj c.M0 E' L' w')/\VR (aj c.M0 E' L' w') av r:=by
 unfold A0 at h;replace h:=bI h;obtain ⟨i,hi,h⟩:=h;split at h
 rotate_left
 ·exact h.elim
 rename_i e he;replace h:=bI h;obtain ⟨ei,iw,h⟩:=h;replace h:=bI h;obtain ⟨ni,hni,h⟩:=h;have hd:i.desc = .slice e:=by
  revert he
  cases i.desc<;>simp [bY]
 obtain ⟨hu,_⟩:=ht t i hi;rw [hd] at hu;obtain ⟨yH,_⟩:=ht t' ni hni;obtain ⟨_,info,k1,k2,k3,k4⟩:=ht e ei iw
 cases fR:(Nat.beq ei.size 1&&Nat.ble 1 ei.bytes&&jI ni.desc) with
 | false=>rw [fR] at h;exact h.elim
 | true =>
 rw [fR] at h;simp only [jB] at h;simp only [oB] at fR;have j8:=ie fR.1.1;have S6:RN e 1:=⟨oM,by rw [ht.sz e ei iw];exact j8⟩;have AE:0<ei.bytes:=Hh fR.1.2;have qQ:ni.desc = .string:=by
  have:=fR.2;revert this
  cases ni.desc<;>simp [jI]
 rw [qQ] at yH;have AZ:info.size=1:=by rw [k3,j8]
 split at h
 rotate_left
 ·exact h.elim
 rename_i bs;simp only [VR,VD] at Aw;subst Aw;split at h
 rotate_left
 ·exact h.elim
 rename_i j;have vr:ei.zero.cells.size=1:=by rw [hzo e ei iw,j8]
 obtain ⟨ab,bC,h1⟩:=cq h
 cases ab<;>simp only at h1<;>first|exact h1.elim|skip
 rename_i e' m xs sh
 cases hb:(Nat.beq m 1&&Nat.beq e' e) with
 | false=>rw [hb] at h1;exact h1.elim
 | true =>
 rw [hb] at h1;simp only [oB] at hb;have em:=ie hb.1;have ee:=ie hb.2;subst em;subst ee;obtain ⟨hbound,h2⟩:=h1;have hsc:=Lib.strCells_length bs;have pM:(oa bs.data.toList).length=bs.size:=by rw [gV,lU];rfl
 have ZS:bs.size=0->oa bs.data.toList=[]:=λh=>oy oM;generalize kx:bs.size=n at *;have h3:=dA (ew h2);rw [gP] at h3;simp only [List.length_set] at h3;have fy:=hs.fQ j _ bC;obtain ⟨_,tI,gC⟩:=fy;have bB:j<L.length:=(dW.1 bC).1;simp only [VR] at hv;obtain ⟨bQ,eY,hrel⟩:=hv;rw [bC] at eY;cases eY
 simp only [bj] at hrel;obtain ⟨hk,pR⟩:=hs.kill bC;have fW:(L.set j AB.dead).length=L.length:=by simp
 have l1:cR (aj c.M0 E L w).rd (oa bs.data.toList).flatten (Lib.strCells bs):=zR bs.data.toList;have l4:∀ cs∈oa bs.data.toList,cs.length=1:=FA _;have ZL:(xs.length+n)<=140737488355328:=fS (zc8 _ AE) hbound;have S7:n * info.bytes<=281474976710656:=by
  rw [k4];have:n * ei.bytes<=(xs.length+n) * ei.bytes:=lT _ oM;omega
 have tr:∀ {E2:Nat->Option Nat} {L2:List AB} {w2:World},(aj c.M0 E (L.set j AB.dead) w).le (aj c.M0 E2 L2 w2)->(aj c.M0 E L w).le (aj c.M0 E2 L2 w2) :=
  λhle=>(pR.trans hle)
 cases hE:E j with
 | none =>
   rw [hE] at gC hrel;simp only at gC hrel;subst gC;subst hrel;simp only [tC,Du,gP] at h3 ZL;rcases Hk n with zw|hnp
   ·rw [ZS zw] at h3;obtain ⟨bP,hle⟩:=hk.pN hc e' 1 sh S6;rw [fW] at bP hle;exact ⟨_,_,_,_,_,jK w t t' ty e' info hu yH k1 none 0 0 (eQ _) bs oM,h3,bP,tr hle,by rw [<-fW];exact kp⟩
   ·have hr:=run_append_nil_string (P:=P) w t t' ty e' info ei.zero hu yH k1 k2 bs oM oM (by rw [kx];exact S7);rw [kx] at hr;have rl:=grownCap_ge w n 0 e';have i_:=grownCap_le_maxLen w n 0 e' (by unfold maxLen;omega);have f1:(bs.data.map (λb=>Value.int .u8 b.toNat)++Builtin.zeroCells ei.zero.cells (grownCap w n 0 e' - n)).size=grownCap w n 0 e' * 1:=by
     rw [WT,size_zeroCells,vr,Array.size_map,show bs.data.size=n from kx];omega
    have f2:cR (aj c.M0 E L w).rd (oa bs.data.toList).flatten ((bs.data.map (λb=>Value.int .u8 b.toNat)++Builtin.zeroCells ei.zero.cells (grownCap w n 0 e' - n)).toList.take ((oa bs.data.toList).length * 1)):=by
     have e0:(bs.data.map (λb=>Value.int .u8 b.toNat)).toList=Lib.strCells bs:=by simp [Lib.strCells]
     rw [Pu,e0,pM,xh];rw [KW oM,gx oM];exact l1
    have kk:aO w (w.drew.alloc (.cells (bs.data.map (λb=>Value.int .u8 b.toNat)++Builtin.zeroCells ei.zero.cells (grownCap w n 0 e' - n)) e')):=(aO.drew w).trans (aO.alloc w.drew _);obtain ⟨bP,hle⟩:=hk.newRow hc kk (e:=e') (xs:=oa bs.data.toList) sh S6 l4 (heap_alloc_new w.drew _) f1 (by rw [pM];exact rl) i_ (cR.mono pR.rd f2);rw [fW] at bP hle;refine ⟨_,_,_,_,_,hr,h3,bP,tr hle,?_⟩;rw [<-fW];have:=cO (M0:=c.M0) (E:=E) (L:=L.set j .dead) (e:=e') (n:=1) (xs:=oa bs.data.toList) (sh:=sh) (heap_alloc_new w.drew (.cells (bs.data.map (λb=>Value.int .u8 b.toNat)++Builtin.zeroCells ei.zero.cells (grownCap w n 0 e' - n)) e')) f1
    rwa [pM] at this
 | some b =>
   rw [hE] at gC hrel;obtain ⟨cap,cur,rfl,hh,da⟩:=hrel;obtain ⟨ek,cur',nY,nx,ND,PF,CW⟩:=gC;rw [hh] at nY;cases nY
   have xn:cap=ek:=oM;subst xn;rw [xh] at da CW;have qL:(xs++oa bs.data.toList).length=xs.length+n:=by rw [iQ,pM]
   have bK:∀ cs∈xs++oa bs.data.toList,cs.length=1:=by
    intro cs ck;rcases gA.1 ck with h|h
    ·exact tI cs h
    ·exact l4 cs h
   have xx:(cur.toList.take xs.length).length=xs.length:=by rw [mw,lU (xs:=cur)];omega
   rcases Hk n with zw|hnp
   ·rw [ZS zw,gR] at h3;obtain ⟨bP,hle⟩:=hs.relabel bC (zs:=xs) (eQ _) (hs.fQ j _ bC);refine ⟨_,_,_,_,_,jK w t t' ty e' info hu yH k1 _ _ _ ND bs oM,h3,bP,hle,?_⟩;rw [hE];have:=cO (M0:=c.M0) (E:=E) (L:=L.set j .dead) (w:=w) (e:=e') (n:=1) (xs:=xs) (sh:=sh) hh (by omega:cur.size=cap * 1);rw [fW] at this;exact this
   ·by_cases eh:xs.length+n<=cap
    ·have hr:=Lib.run_append_room_string (P:=P) w t t' ty e' info hu yH k1 AZ b xs.length cap cur hh bs oM oM;rw [kx] at hr;have CV:(cur.toList.take xs.length++Lib.strCells bs++cur.toList.drop (xs.length+n)).toArray.toList.take (xs.length * 1)=cur.toList.take (xs.length * 1):=by
      simp only [uf,xh];rw [KW oM,WW,zfJ]
     have S8:(cur.toList.take xs.length++Lib.strCells bs++cur.toList.drop (xs.length+n)).toArray.size=cur.size:=by
      simp only [CM,iQ,mw,tf,lU,hsc];omega
     obtain ⟨dR,eX⟩:=hs.write bC hE hh (cur':=(cur.toList.take xs.length++Lib.strCells bs++cur.toList.drop (xs.length+n)).toArray) S8 CV;have KH:=setRow_heap w b cur (cur.toList.take xs.length++Lib.strCells bs++cur.toList.drop (xs.length+n)).toArray e' (0,0) hh;have j8:(cur.toList.take xs.length++Lib.strCells bs++cur.toList.drop (xs.length+n)).toArray.size=cap * 1:=oM;obtain ⟨e_,jG⟩:=dR.relabel bC (zs:=xs++oa bs.data.toList) (by simp) (by
      rw [hE];refine ⟨S6,bK,cap,_,KH,j8,oM,PF,?_⟩;rw [RG];refine cR.mono eX.rd ?_;have e1:(cur.toList.take xs.length++Lib.strCells bs++cur.toList.drop (xs.length+n)).toArray.toList.take ((xs++oa bs.data.toList).length * 1)=cur.toList.take xs.length++Lib.strCells bs:=by
       have:(xs++oa bs.data.toList).length * 1=(cur.toList.take xs.length++Lib.strCells bs).length:=by
        rw [qL,xh,iQ,xx,hsc]
       rw [this];exact ze2
      rw [e1];exact cf CW l1)
     refine ⟨_,_,_,_,_,hr,h3,e_,(eX.trans jG),?_⟩;rw [hE];have:=cO (M0:=c.M0) (E:=E) (L:=L.set j .dead) (e:=e') (n:=1) (xs:=xs++oa bs.data.toList) (sh:=sh) KH j8;rw [fW,qL] at this;exact this
    ·have holds:∀ i u,(cur.toList.take xs.length)[i]? = some u->w.cell? ((⟨b,0,none⟩:Addr).add i)=some u:=by
      intro i u hi;rw [add_lit _ rfl,gP,cell_of_row w b i cur e' (0,0) hh];rw [nX] at hi;split at hi
      ·simpa using hi
      ·cases hi
     have hr:=Lib.run_append_grow_string (P:=P) w t t' ty e' info ei.zero hu yH k1 k2 ⟨b,0,none⟩ xs.length cap (cur.toList.take xs.length) (by rw [xx,AZ,xh]) holds bs oM oM
      (by rw [k4,kx];exact growslice_fits oM hbound)
     rw [kx] at hr;have rl:=grownCap_ge w (xs.length+n) cap e';have i_:=grownCap_le_maxLen w (xs.length+n) cap e' (by unfold maxLen;omega);have f1:((cur.toList.take xs.length).toArray++(Lib.strCells bs).toArray++Builtin.zeroCells ei.zero.cells (grownCap w (xs.length+n) cap e' - (xs.length+n))).size=grownCap w (xs.length+n) cap e' * 1:=by
      rw [WT,WT,size_zeroCells,vr,CM,CM,xx,hsc];omega
     have f2:cR (aj c.M0 E L w).rd (xs++oa bs.data.toList).flatten (((cur.toList.take xs.length).toArray++(Lib.strCells bs).toArray++Builtin.zeroCells ei.zero.cells (grownCap w (xs.length+n) cap e' - (xs.length+n))).toList.take ((xs++oa bs.data.toList).length * 1)):=by
      rw [Pu,Pu,qL,xh];have eM:(cur.toList.take xs.length++Lib.strCells bs).length=xs.length+n:=by rw [iQ,xx,hsc]
      rw [show (cur.toList.take xs.length).toArray.toList=cur.toList.take xs.length from rfl,show (Lib.strCells bs).toArray.toList=Lib.strCells bs from rfl,KW oM,gx oM,RG];exact cf CW l1
     have kk:aO w (w.drew.alloc (.cells ((cur.toList.take xs.length).toArray++(Lib.strCells bs).toArray++Builtin.zeroCells ei.zero.cells (grownCap w (xs.length+n) cap e' - (xs.length+n))) e')):=(aO.drew w).trans (aO.alloc w.drew _);obtain ⟨bP,hle⟩:=hk.newRow hc kk (e:=e') (xs:=xs++oa bs.data.toList) sh S6 bK (heap_alloc_new w.drew _) f1 (by rw [qL];exact rl) i_ (cR.mono pR.rd f2);rw [fW] at bP hle;refine ⟨_,_,_,_,_,hr,h3,bP,tr hle,?_⟩;rw [<-fW,<-qL];exact cO (heap_alloc_new w.drew _) (by rw [qL];exact f1)
def H2 (tt:TypeId->Option TI) (t t':TypeId) (L:List AB) (s x:AV) (K:AV->List AB->Prop):Prop :=
 lN tt t' λni=>bif jI ni.desc then A0 tt t t' L s x K else AY tt t t' L s x K
theorem H3 {P:Program} {tt:TypeId->Option TI} (ht:cp P tt) (hzo:∀ e ei,tt e=some ei->ei.zero.cells.size=ei.size) {t t':TypeId} {c:Ctx} (hc:c.wf) {E:Nat->Option Nat} {L:List AB} {w:World} (hs:aI c E L w) {s x:AV} {K:AV->List AB->Prop} (h:H2 tt t t' L s x K) (ty:TypeId)
  {v u:Value} (hv:VR (aj c.M0 E L w) s v) (Aw:VR (aj c.M0 E L w) x u) :
  ∃ r w' E' av L',(Builtin.append_ #[t,t'] ty #[v,u]).run P w = .ok r w'/\K av L'/\aI c E' L' w'/\(aj c.M0 E L w).le (aj c.M0 E' L' w')/\VR (aj c.M0 E' L' w') av r:=by
 obtain ⟨ni,_,h1⟩:=bI h
 cases hb:jI ni.desc with
 | true=>rw [hb] at h1;exact H0 ht hzo hc hs h1 ty hv Aw
 | false=>rw [hb] at h1;exact HY ht hc hs h1 ty hv Aw
end
noncomputable section
open Go.RowKit
def uu (tt:TypeId->Option TI) (t:TypeId) (l c:AV) (L:List AB) (K:AV->List AB->Prop):Prop :=
 lN tt t λi=>match bY i.desc with
  | some e=>lN tt e λei=>bif Nat.beq ei.size 1 then FM ei.zero λd=>match l with
     | .d (.int _ n)=>match c with
       | .d (.int _ m)=>n=m/\0<=n/\n.toNat * ei.bytes<=140737488355328/\n<=140737488355328/\gU L (.row e 1 (List.replicate n.toNat [d]) false) 0 λj L'=>K (.arr j) L'
       | _=>False
     | _=>False
    else False
  | none=>False
theorem tO (v:Value) (n:Nat):(madeCells #[v] n).toList=List.replicate n v:=by
 unfold madeCells;apply List.ext_getElem
 ·simp
 ·intro k h1 h2;simp [zfP]
theorem C1 {P:Program} {tt:TypeId->Option TI} (ht:cp P tt) {t:TypeId} {c:Ctx} (hc:c.wf) {E:Nat->Option Nat} {L:List AB} {w:World} (hs:aI c E L w) {x y:AV} {K:AV->List AB->Prop} (h:uu tt t x y L K)
  {v u:Value} (hv:VR (aj c.M0 E L w) x v) (Aw:VR (aj c.M0 E L w) y u) :
  ∃ r w' E' av L',(Instr.makeSlice t v u).run P w = .ok r w'/\K av L'/\aI c E' L' w'/\(aj c.M0 E L w).le (aj c.M0 E' L' w')/\VR (aj c.M0 E' L' w') av r:=by
 unfold uu at h;replace h:=bI h;obtain ⟨i,hi,h⟩:=h;split at h
 rotate_left
 ·exact h.elim
 rename_i e he;replace h:=bI h;obtain ⟨ei,iw,h⟩:=h;have hd:i.desc = .slice e:=by
  revert he
  cases i.desc<;>simp [bY]
 obtain ⟨hu,_⟩:=ht t i hi;rw [hd] at hu;obtain ⟨_,info,k1,k2,k3,k4⟩:=ht e ei iw
 cases fR:(Nat.beq ei.size 1) with
 | false=>rw [fR] at h;exact h.elim
 | true =>
 rw [fR] at h;simp only [jB] at h;have j8:=ie fR;have S6:RN e 1:=⟨oM,by rw [ht.sz e ei iw];exact j8⟩;replace h:=DL h;obtain ⟨d,h,CG,pB,hzd⟩:=h;split at h
 rotate_left
 ·exact h.elim
 rename_i kq n;simp only [VR,VD] at hv;subst hv;split at h
 rotate_left
 ·exact h.elim
 rename_i kq' m;simp only [VR,VD] at Aw;subst Aw;obtain ⟨rfl,zw,hbound,hn1,h⟩:=h;obtain ⟨n,rfl⟩:=Int.eq_ofNat_of_zero_le zw;simp only [WA] at hbound h;have h3:=dA h;rw [gP] at h3;have AE:(info.bytes:Int) * (n:Int)<=281474976710656:=by
  have h:((info.bytes * n:Nat):Int)<=281474976710656:=by rw [k4,Nat.mul_comm];omega
  rwa [Int.natCast_mul] at h
 have hr:=run_make (P:=P) w t e info ei.zero hu k1 k2 kq kq' (n:Int) (n:Int) zw (G8 _) AE oM;simp only [WA] at hr;rw [CG,k3,j8,xh] at hr;have zy:(madeCells #[ei.zero] n).size=n * 1:=by rw [<-lU,tO];simp
 obtain ⟨bP,hle⟩:=hs.newRow hc (aO.alloc w (.cells (madeCells #[ei.zero] n) e)) (e:=e) (cap:=n) (xs:=List.replicate n [d]) false S6 (by intro cs ck;rw [(List.mem_replicate.1 ck).2];rfl) (heap_alloc_new w _) zy (by simp) (by unfold maxLen;omega) (by
  rw [tO,R9,xh,gx (by simp)];exact od pB (hzd _) n)
 refine ⟨_,_,_,_,_,hr,h3,bP,hle,?_⟩;have:=cO (M0:=c.M0) (E:=E) (L:=L) (e:=e) (n:=1) (xs:=List.replicate n [d]) (sh:=false) (heap_alloc_new w (.cells (madeCells #[ei.zero] n) e)) zy
 rwa [R9] at this
end
noncomputable section
open Go.RowKit
def Tb:AV->Bool
 | .d (.int _ _)=>true
 | _=>false
def Tc (xs:List AV):List Bool:=List.rec (motive:=λ_=>List Bool) [] (λx _ ih=>Tb x :: ih) xs
def Lm (P:Program) (b:Bool) (t:TypeId):Bool :=
 match P.underlying t with
 | some (.int _)=>b
 | some .string => !b
 | _=>false
def NT (P:Program):List Field->Nat->List Bool->Bool
 | [],_,[]=>true
 | f :: r,n,b :: l=>decide (f.name ≠ "_")&&Nat.beq f.offset n&&Lm P b f.type&&NT P r (n+1) l
 | _,_,_=>false
def DM (P:Program) (t:TypeId) (l:List Bool):Bool :=
 (match P.underlying t with|some (.struct fs)=>NT P fs.toList 0 l|_=>false) && !(P.eqGuardType P.depth t) && !(P.stoodInHeld t)
def Xo (x y:AV) (K:Bool->Prop):Prop :=
 match x,y with
 | .d (.int k a),.d (.int k' b)=>bif W6 k k' then K (a == b) else False
 | .d (.str a),.d (.str b)=>K (a.toList == b.toList)
 | _,_=>False
def Td (xs ys:List AV) (K:Bool->Prop):Prop :=
 List.rec (motive:=λ_=>List AV->(Bool->Prop)->Prop) (λys K=>match ys with|[]=>K true|_=>False)
  (λx _ ih ys K=>match ys with|[]=>False|y :: r=>Xo x y λb=>ih r λc=>K (b&&c)) xs ys K
def Te (x:AV):Bool :=
 match x with
 | .agg _=>true
 | _=>false
def abF (P:Program) (op:BinOp) (t:TypeId) (x y:AV) (K:AV->Prop):Prop :=
 match x,y with
 | .agg xs,.agg ys =>
   match op with
   | .eql=>DM P t (Tc xs)=true/\Td xs ys λb=>K (.d (.bool b))
   | .neq=>DM P t (Tc xs)=true/\Td xs ys λb=>K (.d (.bool (!b)))
   | _=>False
 | _,_=>False
theorem Xp {P:Program} {w:World} {R:RC} {x y:AV} {K:Bool->Prop} (h:Xo x y K) {u v:Value} (hu:VR R x u) (hv:VR R y v) {t:TypeId} (hf:Lm P (Tb x) t=true) (d:Nat) :
  ∃ b,(Op.equalIn (d+1) t u v).run P w = .ok b w/\K b:=by
 unfold Xo at h;split at h
 ·rename_i k a k' b;simp only [VR,VD] at hu hv;subst hu;subst hv
  cases hk:W6 k k' with
  | false=>rw [hk] at h;exact h.elim
  | true =>
    rw [hk] at h;have:=Fo hk;subst this;unfold Lm at hf;split at hf
    ·rename_i k2 ZU;exact ⟨_,run_equalIn_int w d t k k2 a b ZU,h⟩
    ·simp [Tb] at hf
    ·cases hf
 ·rename_i a b;simp only [VR,VD] at hu hv;subst hu;subst hv;unfold Lm at hf;split at hf
  ·simp [Tb] at hf
  ·rename_i ZU;exact ⟨_,run_equalIn_string w d t a b ZU,h⟩
  ·cases hf
 ·exact h.elim
theorem tP {P:Program} {w:World} {e:TypeId} {b:Bool} (he:Lm P b e=true) {xs:Array Value} {off:Nat} {v:Value} (hx:xs[off]? = some v):(part e xs off).run P w = .ok v w:=by
 unfold Lm at he;split at he
 ·rename_i hu;simp [part,isAgg,run_underlying hu,hx]
 ·rename_i hu;simp [part,isAgg,run_underlying hu,hx]
 ·cases he
theorem vA {α:Type} {l r:List α} {n:Nat} {u:α} (h:l.drop n=u :: r):l[n]? = some u/\l.drop (n+1)=r:=by
 have h1:l[n]? = some u:=by
  have:=lM (λx=>x[0]?) h;simpa using this
 refine ⟨h1,?_⟩;have:=lM (List.drop 1) h;simpa [List.drop_drop,ZK] using this
theorem yI {P:Program} {w:World} {R:RC} {U V:Array Value} (d:Nat):∀ {fs:List Field} {n:Nat} {xs ys:List AV} {K:Bool->Prop},NT P fs n (Tc xs)=true->eK R xs (U.toList.drop n)->eK R ys (V.toList.drop n)->Td xs ys K ->
  ∃ b,(Op.eqFields (d+1) U V fs).run P w = .ok b w/\K b
 | [],n,[],ys,K,hf,hu,hv,h=>by
   cases ys with
   | nil=>exact ⟨true,rfl,h⟩
   | cons y r=>exact (show False from h).elim
 | [],n,x :: xs,ys,K,hf,hu,hv,h=>by cases hf
 | f :: r,n,[],ys,K,hf,hu,hv,h=>by cases hf
 | f :: r,n,x :: xs,[],K,hf,hu,hv,h=>(show False from h).elim
 | f :: r,n,x :: xs,y :: ys,K,hf,hu,hv,h=>by
   replace hf:(decide (f.name ≠ "_")&&Nat.beq f.offset n&&Lm P (Tb x) f.type&&NT P r (n+1) (Tc xs))=true:=hf;simp only [oB,jh] at hf;obtain ⟨⟨⟨f1,f2⟩,f3⟩,f4⟩:=hf;have f2:=ie f2;simp only [eK] at hu hv;obtain ⟨u,dt,eu,_,zO,ZU⟩:=hu;obtain ⟨v,Xc,ev,_,uZ,oz⟩:=hv;obtain ⟨a1,a2⟩:=vA eu;obtain ⟨b1,b2⟩:=vA ev;replace h:Xo x y λb=>Td xs ys λc=>K (b&&c):=h;obtain ⟨b,hb,hk⟩:=Xp (P:=P) (w:=w) h zO uZ f3 d;obtain ⟨c,hc,hkc⟩:=yI (P:=P) (w:=w) (R:=R) (U:=U) (V:=V) d f4 (by rw [a2];exact ZU) (by rw [b2];exact oz) hk;have p1:(part f.type U f.offset).run P w = .ok u w:=tP f3 (by rw [f2,<-ZF];exact a1);have p2:(part f.type V f.offset).run P w = .ok v w:=tP f3 (by rw [f2,<-ZF];exact b1)
   cases b with
   | true =>
     refine ⟨c,?_,by simpa using hkc⟩;simp only [Op.eqFields,bp f1,Sem.run_bind,p1,p2,Result.andThen_ok,hb,Bool.not_true,Sa,if_false];exact hc
   | false =>
     refine ⟨false,?_,by simpa using hkc⟩;simp only [Op.eqFields,bp f1,Sem.run_bind,p1,p2,Result.andThen_ok,hb,Bool.not_false,Hm];rfl
theorem Xq {P:Program} {w:World} {R:RC} {op:BinOp} {t:TypeId} {x y:AV} {K:AV->Prop} (h:abF P op t x y K) {u v:Value} (hu:VR R x u) (hv:VR R y v) (xo yo:Operand) :
  ∃ r av,(eqGuard op t xo yo u v).run P w = .ok () w/\(binOp op t u v).run P w = .ok r w/\K av/\∀ R,VR R av r:=by
 unfold abF at h;split at h
 ·rename_i xs ys;simp only [VR] at hu hv;obtain ⟨us,rfl,hu⟩:=hu;obtain ⟨vs,rfl,hv⟩:=hv;have key:∀ K',DM P t (Tc xs)=true->Td xs ys K'->∃ b,(∀ op,(eqGuard op t xo yo (.agg us) (.agg vs)).run P w = .ok () w)/\(Op.equalIn 10000 t (.agg us) (.agg vs)).run P w = .ok b w/\K' b:=by
   intro K' h1 h2;unfold DM at h1;simp only [oB,G6] at h1;obtain ⟨⟨h1,h3⟩,h4⟩:=h1;split at h1
   ·rename_i fs hfs;have eZ:P.fieldsOf t=fs:=by rw [Program.fieldsOf,hfs]
    obtain ⟨b,hb,hk⟩:=yI (P:=P) (w:=w) (R:=R) (U:=us) (V:=vs) 9998 h1 (by simpa using hu) (by simpa using hv) h2;refine ⟨b,λop=>run_eqGuard_agg w op t xo yo us vs h3,?_,hk⟩;rw [show (10000:Nat)=9999+1 from rfl,run_equalIn_agg w 9999 t us vs (by rw [eZ];exact hfs) h4,eZ];exact hb
   ·cases h1
  split at h
  ·obtain ⟨b,g1,g2,g3⟩:=key _ h.1 h.2;exact ⟨.bool b,_,g1 _,by rw [run_eql_struct,g2];rfl,g3,λR=>by simp [VR,VD]⟩
  ·obtain ⟨b,g1,g2,g3⟩:=key _ h.1 h.2;exact ⟨.bool (!b),_,g1 _,by rw [run_neq_struct,g2];rfl,g3,λR=>by simp [VR,VD]⟩
  ·exact h.elim
 ·exact h.elim
end
end Go.Ab
