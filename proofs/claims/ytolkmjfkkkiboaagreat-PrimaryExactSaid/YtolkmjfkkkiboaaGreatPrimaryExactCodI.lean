/- PrimaryExact: contracts. -/
import Derived.Test.YtolkmjfkkkiboaaGreatPrimaryExactCodH
import Derived.Shelf.Spec.SlicesInsertGrow
set_option linter.all false
set_option maxHeartbeats 8000000
set_option maxRecDepth 100000
namespace Go.Proofs.YtolkmjfkkkiboaaGreat
open Go Go.Ab Go.RowKit Go.Lib Go.Proofs Go.Shelf Tryz
theorem Df (b n c i vb vc:Nat) (cs vs:List Value) {cur fH:Array Value} (w:World) (hi:i<n) (eh:n+1<=c) (UF:c<=9223372036854775807) (UG:vb≠b)
  (gE:w.heap[b]? = some (.cells cur 106 (0,0))) (da:cur.size=c * 3) (yM:w.heap[vb]? = some (.cells fH 106 (0,0))) (CX:fH.toList.take 3=vs) (tY:vs.length=3)
  (ck:cur.toList.take (n * 3)=cs) (yW:∀ v∈cs,v.oneCell'=true) (Eh:∀ v∈vs,v.oneCell'=true) :
  Calls prog 178 #[.slice (some ⟨b,0,none⟩) n c,.j i,.slice (some ⟨vb,0,none⟩) 1 vc] w λe w' =>
   e = .returned (.slice (some ⟨b,0,none⟩) (n+1) c)/\∃ (cur':Array Value) (w1:World),aO w w1/\w'=w1.setRow b cur'/\cur'.size=cur.size/\cur'.toList.take ((n+1) * 3)=cs.take (i * 3)++vs++cs.drop (i * 3):=by
 have t0:=Tryz.underlying0;have a0:=Tryz.isAgg0;have z0:=Tryz.sizeOf0;have v0:=Tryz.zeroValue0;have t3:=Tryz.underlying3;have a3:=Tryz.isAgg3;have z3:=Tryz.sizeOf3;have v3:=Tryz.zeroValue3;have t4:=Tryz.underlying4;have a4:=Tryz.isAgg4;have z4:=Tryz.sizeOf4;have v4:=Tryz.zeroValue4;have t22:=Tryz.underlying25;have a22:=Tryz.isAgg25;have z22:=Tryz.sizeOf25;have v22:=Tryz.zeroValue25;have t68:=Tryz.underlying106;have a68:=Tryz.isAgg106;have BK:=Tryz.sizeOf106;have v68:=Tryz.zeroValue106;have u0:=run_underlying t0;have u3:=run_underlying t3;have u4:=run_underlying t4;have u22:=run_underlying t22;have u68:=run_underlying t68;have mixed:=cB;have oA:¬((i:Int)=(n:Int)):=oM;have fD:i<=n:=oM;have Ag:IntKind.i64.wrap ((i:Int)+1)=(i:Int)+1:=by rw [IntKind.wrap_i64];omega
 have hwn:IntKind.i64.wrap ((n:Int)+1)=(n:Int)+1:=by rw [IntKind.wrap_i64];omega
 have eS:(0:Int)<=(i:Int)+1:=oM;have yH:((i:Int)+1).toNat=i+1:=oM;have kx:((n:Int)+1).toNat=n+1:=oM;have iR:¬(c=i+1):=oM;have HH:(i:Int)<=(n:Int)+1:=oM;have hb4:¬(c=i):=oM;have hb5:¬((n:Int)+1>(c:Int)):=oM;have UH:w.shape? vb=some (106,fH.size):=by simp [World.shape?,yM]
 have UI:w.shape? b=some (106,cur.size):=by simp [World.shape?,gE]
 have BE:∀ o,w.frozen? ⟨vb,o,none⟩=false:=λo=>by simp [World.frozen?,yM]
 have Jc:cur.size≠0:=oM;have tG:∀ lb cb,(callFunc 221 #[.slice (some ⟨vb,0,none⟩) 1 vc,.slice (some ⟨b,(i+1) * 3,none⟩) lb cb]).run prog w = .ok (.value (.bool false)) w:=λlb cb=>by
  rw [run_callFunc_extern func221 kR kR kR (e:=Extern.SlicesOverlaps.overlaps #[25,25] #[4]) kR,
   Lib.run_overlaps_apart w 25 4 106 t22 3 BK ⟨vb,0,none⟩ ⟨b,(i+1) * 3,none⟩ 1 vc lb cb UG 106 106 fH.size cur.size UH UI Jc (BE _) (BE _)]
  rfl
 have bR:cs.length=n * 3:=by rw [<-ck,mw,lU,da];exact vd (lT _ oM)
 have pM:(cs.drop (i * 3)).length=(n - i) * 3:=by rw [tf,bR,WY]
 obtain ⟨gF,lp⟩:∃ gF:Array Value,(cur.toList.take ((i+1) * 3)++cs.drop (i * 3)++cur.toList.drop ((i+1) * 3+(cs.drop (i * 3)).length)).toArray=gF:=⟨_,rfl⟩;have eL:=Bp cur.toList vs (i * 3) (n * 3) 3 (lT _ fD) (by rw [lU,da];omega) tY gF.toList (by rw [<-lp,ck,qu,Nu]);obtain ⟨fx,ri⟩:∃ fx:Array Value,(gF.toList.take (i * 3)++vs++gF.toList.drop (i * 3+vs.length)).toArray=fx:=⟨_,rfl⟩;have sy:gF.size=cur.size:=by have:=eL.2.2;simpa using this
 have wj:∀ ty dc sc,(Builtin.copy_ #[25,25] ty #[.slice (some ⟨b,(i+1) * 3,none⟩) (n - i) dc,.slice (some ⟨b,i * 3,none⟩) (n+1 - i) sc]).run prog w.drew = .ok (goInt (n - i:Nat)) (w.drew.setRow b gF):=λty dc sc=>by
  have:=cd (P:=prog) w.drew 25 25 ty 106 3 b ((i+1) * 3) (n - i) dc ⟨b,i * 3,none⟩ (n+1 - i) sc (n - i) (cs.drop (i * 3)) (cur:=cur) t22 BK (Nat.min_eq_right oM) pM
   (λj v hj=>by
     rw [add_lit _ rfl,show w.drew.cell? ⟨b,i * 3+j,none⟩=w.cell? ⟨b,i * 3+j,none⟩ from rfl,cell_of_row w b _ cur _ _ gE];rw [Dt,<-ck,nX] at hj;split at hj
     ·simpa using hj
     ·cases hj) gE (by rw [pM,da];omega) (λv hv=>yW v (G5 hv))
  rw [lp] at this;exact this
 have C_:∀ (W:World),(∀ x:Nat,W.heap[x]? = (w.drew.setRow b gF).heap[x]?)->∀ ty dc,(Builtin.copy_ #[25,25] ty #[.slice (some ⟨b,i * 3,none⟩) (n+1 - i) dc,.slice (some ⟨vb,0,none⟩) 1 vc]).run prog W = .ok (goInt (1:Nat)) (W.setRow b fx):=λW hW ty dc=>by
  have:=cd (P:=prog) W 25 25 ty 106 3 b (i * 3) (n+1 - i) dc ⟨vb,0,none⟩ 1 vc 1 vs (cur:=gF) (e:=106) t22 BK (vd oM) (by rw [tY])
   (λj v hj=>by
     rw [add_lit _ rfl,gP];have h1:W.cell? ⟨vb,j,none⟩=(w.drew.setRow b gF).cell? ⟨vb,j,none⟩:=by simp only [World.cell?,hW]
     rw [h1,cell_setRow_other _ _ _ _ UG,show w.drew.cell? ⟨vb,j,none⟩=w.cell? ⟨vb,j,none⟩ from rfl,cell_of_row w vb _ fH _ _ yM];rw [<-CX,nX] at hj;split at hj
     ·simpa using hj
     ·cases hj) (by rw [hW];exact setRow_heap _ _ _ _ _ _ gE) (by rw [tY,sy,da];omega) Eh
  rw [ri] at this;exact this
 clear lp pM bR
 go_enter func178,ntmps178
 go_wp2_with (simp only [tG])
 go_region_law_o (refine step_copy_runI rfl _ _ 25 25 rfl (.slice (some ⟨b,(i+1) * 3,none⟩) (n - i) (c - (i+1))) (.slice (some ⟨b,i * 3,none⟩) (n+1 - i) (c - i)) (by simp [Act.eval,Act.put]) (by simp [Act.eval,Act.put]) (wj _ _ _) ?_)
 go_wp2_with (at_builtin;refine wpList_copy_runI _ rfl _ _ 25 25 rfl _ _ rfl rfl (C_ _ (λ_=>rfl) _ _) ?_)
 go_ret
 refine ⟨rfl,fx,w.drew,aO.drew w,setRow_setRow _ _ _ _,?_,?_⟩
 ·have:=eL.2.1;rw [<-ri];simpa using this
 ·rw [qu,Nu,<-ri];have:=eL.1;rw [ck] at this;exact this
theorem Gv (b n c i vb vc:Nat) (cs vs:List Value) {cur fH:Array Value} (w:World) (hi:i<n) (hnc:n<=c) (eh:c<n+1) (xu:(n+1) * 8192<=140737488355328) (UG:vb≠b)
  (gE:w.heap[b]? = some (.cells cur 106 (0,0))) (da:cur.size=c * 3) (yM:w.heap[vb]? = some (.cells fH 106 (0,0))) (CX:fH.toList.take 3=vs) (tY:vs.length=3)
  (ck:cur.toList.take (n * 3)=cs) (yW:∀ v∈cs,v.oneCell'=true) (Eh:∀ v∈vs,v.oneCell'=true) :
  Calls prog 178 #[.slice (some ⟨b,0,none⟩) n c,.j i,.slice (some ⟨vb,0,none⟩) 1 vc] w λe w' =>
   ∃ (cur':Array Value) (G:Nat),e = .returned (.slice (some ⟨w.heap.size,0,none⟩) (n+1) G)/\aO w w'/\w'.heap[w.heap.size]? = some (.cells cur' 106 (0,0))/\cur'.size=G * 3/\n+1<=G/\G<=maxLen/\cur'.toList.take ((n+1) * 3)=cs.take (i * 3)++vs++cs.drop (i * 3):=by
 have t0:=Tryz.underlying0;have a0:=Tryz.isAgg0;have z0:=Tryz.sizeOf0;have v0:=Tryz.zeroValue0;have t3:=Tryz.underlying3;have a3:=Tryz.isAgg3;have z3:=Tryz.sizeOf3;have v3:=Tryz.zeroValue3;have t4:=Tryz.underlying4;have a4:=Tryz.isAgg4;have z4:=Tryz.sizeOf4;have v4:=Tryz.zeroValue4;have t22:=Tryz.underlying25;have a22:=Tryz.isAgg25;have z22:=Tryz.sizeOf25;have v22:=Tryz.zeroValue25;have t68:=Tryz.underlying106;have a68:=Tryz.isAgg106;have BK:=Tryz.sizeOf106;have v68:=Tryz.zeroValue106;have u0:=run_underlying t0;have u3:=run_underlying t3;have u4:=run_underlying t4;have u22:=run_underlying t22;have u68:=run_underlying t68;have mixed:=cB;obtain ⟨ti,Jd⟩:∃ ti,tt 106=some ti:=⟨_,rfl⟩;have htb:ti.bytes<=8192:=by cases Jd;decide
 have IV:ti.size=3:=by cases Jd;rfl
 obtain ⟨_,info,k1,k2,k3,k4⟩:=aF 106 ti Jd;have CG:=bf 106 ti Jd;rw [IV] at CG k3;clear Jd;have bR:cs.length=n * 3:=by rw [<-ck,mw,lU,da];exact vd (lT _ oM)
 have pM:(cs.drop (i * 3)).length=(n - i) * 3:=by rw [tf,bR,WY]
 have hbw:b<w.heap.size:=(ud.1 gE).1;have hvw:vb<w.heap.size:=(ud.1 yM).1;have hold:(Builtin.firstCells info.size i (.slice (some ⟨b,0,none⟩) i c)).run prog w.drew = .ok (cs.take (i * 3)).toArray w.drew :=
  run_firstCells_some w.drew info.size i ⟨b,0,none⟩ i c (cs.take (i * 3)) (by rw [mw,bR,k3];exact vd (lT _ oM)) (λj v hj=>by
   rw [add_lit _ rfl,gP,show w.drew.cell? ⟨b,j,none⟩=w.cell? ⟨b,j,none⟩ from rfl,cell_of_row w b _ cur _ _ gE];rw [<-ck,nX] at hj;split at hj
   ·rw [nX] at hj;split at hj
    ·simpa using hj
    ·cases hj
   ·cases hj)
 have AE:(n+1) * info.bytes<=140737488355328:=fS (Nat.mul_le_mul_left _ (by rw [k4];exact htb)) xu;have WL:(n:Int)+1 - (i:Int)=((n+1 - i:Nat):Int):=oM;have UJ:i+(n+1 - i)=n+1:=oM;obtain ⟨G,hG⟩:∃ G,G=grownCap w (n+1) c 106:=⟨_,rfl⟩;obtain ⟨jo,wk⟩:∃ jo:Array Value,jo=(cs.take (i * 3)).toArray++Builtin.zeroCells ti.zero.cells (n+1 - i)++Builtin.zeroCells ti.zero.cells (G - (n+1)):=⟨_,rfl⟩;have hrz:∀ ty,(Builtin.append_ #[25,3] ty #[.slice (some ⟨b,0,none⟩) i c,.j ((n:Int)+1 - (i:Int))]).run prog w =
   .ok (.slice (some ⟨w.heap.size,0,none⟩) (n+1) G) (w.drew.alloc (.cells jo 106)):=λty=>by
  have h:=Lib.run_append_grow_zeros w 25 3 ty 106 info _ .i64 .i64 t22 t3 k1 k2 (some ⟨b,0,none⟩) i c (cs.take (i * 3)) hold (n+1 - i) oM oM oM oM (fS (lT _ oM) (fS AE dC)) (by rw [UJ];exact growslice_fits eh AE);rw [UJ,<-hG,<-wk] at h;rw [WL];exact h
 have hGn:n+1<=G:=by rw [hG];exact grownCap_ge w _ _ _
 have hGm:G<=maxLen:=by
  rw [hG];exact grownCap_le_maxLen w (n+1) c 106 (by unfold maxLen;omega)
 have afN:G<=9223372036854775807:=by unfold maxLen at hGm;omega
 have Je:jo.size=G * 3:=by
  rw [wk];simp only [WT,size_zeroCells,CM,mw,bR,CG];rw [vd (lT _ (by omega:i<=n)),<-qu,<-qu];congr 1;omega
 have hRt:jo.toList.take (i * 3)=cs.take (i * 3):=by
  rw [wk,Pu,Pu,uf,KW (by simp [bR];omega),gx (by simp;omega)]
 obtain ⟨R1,OO⟩:∃ R1:Array Value,(jo.toList.take (i * 3)++vs++jo.toList.drop (i * 3+vs.length)).toArray=R1:=⟨_,rfl⟩;obtain ⟨R2,OP⟩:∃ R2:Array Value,(R1.toList.take ((i+1) * 3)++cs.drop (i * 3)++R1.toList.drop ((i+1) * 3+(cs.drop (i * 3)).length)).toArray=R2:=⟨_,rfl⟩;have eL:=xU jo.toList vs (cs.drop (i * 3)) _ (i * 3) (n * 3) 3 (lT _ oM) (by rw [lU,Je];omega) tY (by rw [pM,WY]) hRt;have sy:R1.size=G * 3:=by rw [<-Je,<-OO];simpa using eL.2.2
 have e1:R1.toList=jo.toList.take (i * 3)++vs++jo.toList.drop (i * 3+vs.length):=by rw [<-OO]
 rw [<-e1,show i * 3+3=(i+1) * 3 by omega] at eL;have kj:R2.size=G * 3:=by rw [<-Je,<-OP];simpa using eL.2.1
 have hr2:R2.toList.take ((n+1) * 3)=cs.take (i * 3)++vs++cs.drop (i * 3):=by
  rw [<-OP,show (n+1) * 3=n * 3+3 by omega];exact eL.1
 have gd:(w.drew.alloc (.cells jo 106)).heap[w.heap.size]? = some (.cells jo 106 (0,0)):=heap_alloc_new w.drew _;have afO:vb≠w.heap.size:=oM;have hbN:b≠w.heap.size:=oM;have UK:∀ (W:World),(∀ x:Nat,W.heap[x]? = (w.drew.alloc (.cells jo 106)).heap[x]?)->∀ ty dc,(Builtin.copy_ #[25,25] ty #[.slice (some ⟨w.heap.size,i * 3,none⟩) (n+1 - i) dc,.slice (some ⟨vb,0,none⟩) 1 vc]).run prog W = .ok (goInt (1:Nat)) (W.setRow w.heap.size R1):=λW hW ty dc=>by
  have:=cd (P:=prog) W 25 25 ty 106 3 w.heap.size (i * 3) (n+1 - i) dc ⟨vb,0,none⟩ 1 vc 1 vs (cur:=jo) (e:=106) t22 BK (vd oM) (by rw [tY])
   (λj v hj=>by
     rw [add_lit _ rfl,gP];have h1:W.cell? ⟨vb,j,none⟩=(w.drew.alloc (.cells jo 106)).cell? ⟨vb,j,none⟩:=by simp only [World.cell?,hW]
     rw [h1];refine (aO.alloc w.drew _).cell ?_;rw [show w.drew.cell? ⟨vb,j,none⟩=w.cell? ⟨vb,j,none⟩ from rfl,cell_of_row w vb _ fH _ _ yM];rw [<-CX,nX] at hj;split at hj
     ·simpa using hj
     ·cases hj) (by rw [hW];exact gd) (by rw [tY,Je];omega) Eh
  rw [OO] at this;exact this
 have UL:∀ (W:World),(∀ x:Nat,W.heap[x]? = ((w.drew.alloc (.cells jo 106)).setRow w.heap.size R1).heap[x]?)->∀ ty dc sc,(Builtin.copy_ #[25,25] ty #[.slice (some ⟨w.heap.size,(i+1) * 3,none⟩) (n - i) dc,.slice (some ⟨b,i * 3,none⟩) (n - i) sc]).run prog W = .ok (goInt (n - i:Nat)) (W.setRow w.heap.size R2):=λW hW ty dc sc=>by
  have:=cd (P:=prog) W 25 25 ty 106 3 w.heap.size ((i+1) * 3) (n - i) dc ⟨b,i * 3,none⟩ (n - i) sc (n - i) (cs.drop (i * 3)) (cur:=R1) (e:=106) t22 BK (zfJ _) pM
   (λj v hj=>by
     rw [add_lit _ rfl];have h1:W.cell? ⟨b,i * 3+j,none⟩=((w.drew.alloc (.cells jo 106)).setRow w.heap.size R1).cell? ⟨b,i * 3+j,none⟩:=by simp only [World.cell?,hW]
     rw [h1,cell_setRow_other _ _ _ _ hbN];refine (aO.alloc w.drew _).cell ?_;rw [show w.drew.cell? ⟨b,i * 3+j,none⟩=w.cell? ⟨b,i * 3+j,none⟩ from rfl,cell_of_row w b _ cur _ _ gE];rw [Dt,<-ck,nX] at hj;split at hj
     ·simpa using hj
     ·cases hj) (by rw [hW];exact setRow_heap _ _ _ _ _ _ gd) (by rw [pM,sy];omega) (λv hv=>yW v (G5 hv))
  rw [OP] at this;exact this
 have Ag:IntKind.i64.wrap ((i:Int)+1)=(i:Int)+1:=by rw [IntKind.wrap_i64];omega
 have hwn:IntKind.i64.wrap ((n:Int)+1)=(n:Int)+1:=by rw [IntKind.wrap_i64];omega
 have hws:IntKind.i64.wrap ((n:Int)+1 - i)=(n:Int)+1 - i:=by rw [IntKind.wrap_i64];omega
 have eS:(0:Int)<=(i:Int)+1:=oM;have yH:((i:Int)+1).toNat=i+1:=oM;have oA:¬((i:Int)=(n:Int)):=oM;have fD:i<=n:=oM;have HH:(i:Int)<=(n:Int):=oM;have hb5:(c:Int)<(n:Int)+1:=oM;have hGi:¬(G=i):=oM;have afQ:¬(G=i+1):=oM;have hci:¬(c=i):=oM;clear WL UJ hold wk hG hRt Je OO OP eL sy e1;have Ei:∀ dc,(Builtin.copy_ #[25,25] 3 #[.slice (some ⟨w.heap.size,i * 3,none⟩) (n+1 - i) dc,.slice (some ⟨vb,0,none⟩) 1 vc]).run prog (w.alloc (.cells jo 106)).drew = .ok (goInt (1:Nat)) ((w.alloc (.cells jo 106)).drew.setRow w.heap.size R1):=λdc=>UK _ (λ_=>rfl) _ _;have Ej:=UL ((w.alloc (.cells jo 106)).drew.setRow w.heap.size R1).drew (λ_=>rfl) 3 (G - (i+1)) (c - i)
 go_enter func178,ntmps178
 go_wp2_with (first
  | (at_builtin;refine Lib.wpList_append_run _ rfl _ _ _ _ rfl _ _ rfl rfl _ _ (hrz _) ?_)
  | simp only [Ei])
 go_region_law_o (refine step_copy_runI rfl _ _ 25 25 rfl (.slice (some ⟨w.heap.size,(i+1) * 3,none⟩) (n - i) (G - (i+1))) (.slice (some ⟨b,i * 3,none⟩) (n - i) (c - i)) (by simp [Act.eval,Act.put]) (by simp [Act.eval,Act.put]) Ej ?_)
 go_wp2
 go_ret
 exact ⟨R2,G,rfl,(((aO.alloc w _).trans (aO.drew _)).xT _ (eQ _) _).trans (aO.drew _) |>.xT _ (eQ _) _,setRow_heap _ _ _ _ _ _ (setRow_heap _ _ _ _ _ _ gd),kj,hGn,hGm,hr2⟩
theorem Dg (l:List (List DV)) (x:List DV) (i:Nat) (hi:i<l.length) (hl:l.length<=4294967296):zA 178 [.arr 0,.k i,.arr 1] [.row 106 3 l false,.row 106 3 [x] false] (pQ (.arr 2) [.dead,.row 106 3 [x] false,.row 106 3 (l.take i++x :: l.drop i) false]):=by
 intro c vs hc He hs hv;simp only [cD,VR,VD] at hv;obtain ⟨u0,r0,kQ,⟨cU,mN,lq⟩,u1,r1,rfl,zO,u2,r2,rfl,⟨fp,gq,o6⟩,rfl⟩:=hv;simp only [KF,ue,ke] at mN gq;subst mN;subst gq;subst zO;have j7:vs = #[u0,.j i,u2]:=by rw [<-uX (xs:=vs),kQ]
 rw [j7];have fR:=hs.fQ 0 _ rfl;have eS:=hs.fQ 1 _ rfl;obtain ⟨_,xw,eS⟩:=eS;obtain ⟨_,eM,fR⟩:=fR;have hx6:x.length=3:=xw x (by simp)
 cases xS:c.E0 1 with
 | none=>rw [xS] at eS;cases eS
 | some vb =>
 cases hE:c.E0 0 with
 | none =>
   rw [hE] at fR;have fR:l=[]:=fR;subst fR;simp at hi
 | some b =>
 rw [hE] at fR;rw [xS] at eS;simp only [bj,hE,xS] at lq o6;obtain ⟨cap,cur,rfl,hh,da⟩:=lq;obtain ⟨vc,fH,rfl,OQ,UM⟩:=o6;obtain ⟨ek,cur',nY,nx,gT,qN,CY⟩:=fR;rw [hh] at nY;cases nY
 obtain rfl:cap=ek:=oM;obtain ⟨vc',aap,Jf,aaq,Jg,_,wm⟩:=eS;rw [OQ] at Jf;cases Jf
 have ef:vb≠b:=by
  rintro rfl;have:=hs.inj 1 0 _ _ _ rfl rfl rfl rfl xS hE
  cases this
 simp only [CE,Du,gP,Nu,va,List.flatten_nil,gR] at wm Jg ⊢;have yW:=pH CY;have Eh:=pH wm;have tY:(fH.toList.take 3).length=3:=by rw [ed wm,hx6]
 have sB:(l.take i++x :: l.drop i).length=l.length+1:=by simp;omega
 have WI:∀ cs∈l.take i++x :: l.drop i,cs.length=3:=by
  intro cs ck;rcases gA.1 ck with h|h
  ·exact eM cs (Fc h)
  ·rcases jy.1 h with rfl|h
   ·exact hx6
   ·exact eM cs (G5 h)
 have gd:cR (aj c.M0 c.E0 [AB.row 106 3 l false,AB.row 106 3 [x] false] c.w0).rd (l.take i++x :: l.drop i).flatten ((cur.toList.take (l.length * 3)).take (i * 3)++fH.toList.take 3++(cur.toList.take (l.length * 3)).drop (i * 3)):=by
  rw [RG,va,eI l eM,kS l eM,<-uf];exact cf (cf (gJ _ CY) wm) (kP _ CY)
 by_cases eh:l.length+1<=cap
 ·refine (Df b l.length cap i vb vc _ _ c.w0 hi eh (by unfold maxLen at qN;omega) ef hh da OQ rfl tY rfl yW Eh).mono ?_;rintro e w' ⟨rfl,fx,w1,kk,rfl,e_,PM⟩;have C8:=hs.lt (i:=0) rfl rfl hE;obtain ⟨Ga,UN⟩:=(hs.keeps hc kk).abT (i:=0) (zs:=l.take i++x :: l.drop i) rfl hE (cur':=fx) (by rw [kk.block b C8];exact hh) e_ (by rw [sB,da];exact lT _ eh) WI (by
   rw [sB,PM];exact cR.mono (iI hs.bl kk).rd gd)
  refine ⟨_,.arr 2,_,_,rfl,⟨rfl,rfl⟩,Ga,?_⟩;simp only [VR];refine ⟨_,rfl,?_⟩;simp only [bj,ca];exact ⟨cap,fx,by rw [sB],setRow_heap _ _ _ _ _ _ (by rw [kk.block b C8];exact hh),by rw [e_];exact da⟩
 ·refine (Gv b l.length cap i vb vc _ _ c.w0 hi gT oM oM ef hh da OQ rfl tY rfl yW Eh).mono ?_;rintro e w' ⟨fx,G,rfl,kk,DX,e_,hG1,hG2,PM⟩;obtain ⟨hk,pR⟩:=hs.kill (i:=0) rfl;obtain ⟨Ga,UN⟩:=hk.newRow hc kk (e:=106) (xs:=l.take i++x :: l.drop i) false (by exact ⟨dC,rfl⟩) WI DX e_ (by rw [sB];exact hG1) hG2 (by
   rw [sB,PM];exact cR.mono pR.rd gd)
  refine ⟨_,.arr 2,_,_,rfl,⟨rfl,rfl⟩,Ga,?_⟩;simp only [VR];refine ⟨_,rfl,?_⟩;simp only [bj,ca];exact ⟨G,fx,by rw [sB],DX,e_⟩
theorem B0 (l:List (List DV)) (eM:∀ cs∈l,cs.length=3) (x:List DV) (hx:x.length=3) (hl:l.length<=4294967296):zA 178 [.arr 0,.k l.length,.arr 1] [.row 106 3 l false,.row 106 3 [x] false] (pQ (.arr 2) [.dead,.row 106 3 [x] false,.row 106 3 (l++[x]) false]):=by
 intro c vs hc He hs hv;have hv0:=hv;simp only [cD,VR,VD] at hv;obtain ⟨u0,r0,kQ,⟨cU,mN,lq⟩,u1,r1,rfl,zO,u2,r2,rfl,⟨fp,gq,o6⟩,rfl⟩:=hv;have hq:pP tt 25 [AB.row 106 3 l false,AB.row 106 3 [x] false] (.arr 0) (.arr 1) (pQ (.arr 2) [.dead,.row 106 3 [x] false,.row 106 3 (l++[x]) false]):=by
  conv=>whnf
  refine ⟨by simp;omega,?_⟩
  conv=>whnf
  exact ⟨rfl,rfl⟩
 have uZ:VR (aj c.M0 c.E0 [AB.row 106 3 l false,AB.row 106 3 [x] false] c.w0) (.arr 0) u0:=⟨cU,mN,lq⟩;have oz:VR (aj c.M0 c.E0 [AB.row 106 3 l false,AB.row 106 3 [x] false] c.w0) (.arr 1) u2:=⟨fp,gq,o6⟩;have hr:=λty=>rP aF bf hc hs hq ty uZ oz;simp only [KF,ue,ke] at mN gq;subst mN;subst gq;subst zO;have j7:vs = #[u0,.j l.length,u2]:=by rw [<-uX (xs:=vs),kQ]
 rw [j7];have fR:=hs.fQ 0 _ rfl;have eS:=hs.fQ 1 _ rfl;obtain ⟨_,xw,eS⟩:=eS;obtain ⟨_,eM,fR⟩:=fR
 cases xS:c.E0 1 with
 | none=>rw [xS] at eS;cases eS
 | some vb =>
 simp only [bj,xS] at o6;obtain ⟨vc,fH,rfl,OQ,UM⟩:=o6;obtain ⟨r,w',E',av,L',gi,⟨rfl,rfl⟩,fj,hle,UO⟩:=hr 25;simp only [CE,Du,gP] at gi ⊢;have t0:=Tryz.underlying0;have a0:=Tryz.isAgg0;have z0:=Tryz.sizeOf0;have v0:=Tryz.zeroValue0;have t3:=Tryz.underlying3;have a3:=Tryz.isAgg3;have z3:=Tryz.sizeOf3;have v3:=Tryz.zeroValue3;have t4:=Tryz.underlying4;have a4:=Tryz.isAgg4;have z4:=Tryz.sizeOf4;have v4:=Tryz.zeroValue4;have t22:=Tryz.underlying25;have a22:=Tryz.isAgg25;have z22:=Tryz.sizeOf25;have v22:=Tryz.zeroValue25;have t68:=Tryz.underlying106;have a68:=Tryz.isAgg106;have BK:=Tryz.sizeOf106;have v68:=Tryz.zeroValue106;have u0:=run_underlying t0;have u3:=run_underlying t3;have u4:=run_underlying t4;have u22:=run_underlying t22;have u68:=run_underlying t68;have mixed:=cB
 cases hE:c.E0 0 with
 | none =>
   rw [hE] at fR;have fR:l=[]:=fR;subst fR;simp only [bj,hE] at lq;subst lq;refine Calls.mono (R:=λe w2=>e = .returned r/\w2=w') ?_ (by rintro _ _ ⟨rfl,rfl⟩;exact ⟨_,.arr 2,_,_,rfl,⟨rfl,rfl⟩,fj,UO⟩)
   go_enter func178,ntmps178
   go_wp2_with (at_builtin;refine Lib.wpList_append_run _ rfl _ _ _ _ rfl _ _ rfl rfl _ _ gi ?_)
   go_ret
   exact ⟨rfl,rfl⟩
 | some b =>
   rw [hE] at fR;simp only [bj,hE] at lq;obtain ⟨cap,cur,rfl,hh,da⟩:=lq;obtain ⟨ek,cur',nY,nx,gT,qN,CY⟩:=fR;rw [hh] at nY;cases nY
   obtain rfl:cap=ek:=oM;have UF:cap<=9223372036854775807:=by unfold maxLen at qN;omega
   refine Calls.mono (R:=λe w2=>e = .returned r/\w2=w') ?_ (by rintro _ _ ⟨rfl,rfl⟩;exact ⟨_,.arr 2,_,_,rfl,⟨rfl,rfl⟩,fj,UO⟩);clear da nx UO fj hle;obtain ⟨n,hn⟩:∃ n,l.length=n:=⟨_,rfl⟩;rw [hn] at gi gT ⊢
   go_enter func178,ntmps178
   go_wp2_with (at_builtin;refine Lib.wpList_append_run _ rfl _ _ _ _ rfl _ _ rfl rfl _ _ gi ?_)
   all_goals (go_ret;exact ⟨rfl,rfl⟩)
end Go.Proofs.YtolkmjfkkkiboaaGreat
namespace Go.Proofs.YtolkmjfkkkiboaaGreat
open Go.Ab Go.RowKit Go.MapKept Tryz
attribute [local irreducible] ay AW cw eA eo bL
def bb.av (v:bb):AV := .agg (v.cs.map AV.d)
theorem pb (v:bb):zA 129 [v.av] [] (pQ (.d (rh v.round v.af)) []):=by
 refine gG func129 ntmps129 ?_;refine (gW v.round v.af).mono ?_;rintro _ _ ⟨rfl,rfl⟩
 conv=>whnf
 exact ⟨rfl,rfl⟩
theorem Gw (p:DV):zA 219 [.d (.sl 3 []),.d p,.fn 220 []] [] (pQ (.tup [.k 0,.d (.bool false)]) []):=by
 refine dB func219 ntmps219 ?_;refine aH aF bf aG (σ:=Unit) (λ_=>([(0,.d (.sl 3 [])),(8,.k 0),(9,.k 0),(10,.k 0)],[])) (λ_=>True) (λ_=>0) [0,8,9,10] ?_ ?_
 ·conv=>whnf
  exact ⟨(),rfl,rfl,trivial⟩
 ·rintro _ -;refine rdv ?_;exact ⟨rfl,rfl⟩
theorem QB (r a:Int):zA 177 [.d (.sl 3 []),.d (rh r a)] [] (pQ (.tup [.k 0,.d (.bool false)]) []):=by
 have h:=Gw (rh r a);refine dB func177 ntmps177 ?_;refine h.mono ?_;rintro _ _ ⟨rfl,rfl⟩
 conv=>whnf
 exact ⟨rfl,rfl⟩
theorem JJ (v:bb):zA 178 [.arr 0,.k 0,.d (.sl 3 (ax [v]))] [.row 106 3 [] false] (pQ (.d (.sl 3 (ax [v]))) [.dead]):=by
 refine gG func178 ntmps178 ?_;refine Or.inl ?_
 conv=>whnf
 refine ⟨dC,dC,dC,?_⟩;refine rdv ?_;refine ⟨by show (0+1) * 24<=140737488355328;decide,?_⟩;refine rdv ?_;exact ⟨rfl,rfl⟩
theorem JK (v:bb):zA 142 [.d (.sl 3 []),v.av] [] (pQ (.tup [.d (.sl 3 (ax [v])),.k 0]) []):=by
 have h1:=pb v;have h2:=QB v.round v.af;have h3:=qi [] (by simp);have h4:=JJ v;refine gG func142 ntmps142 ?_;refine ay.mono (post:=λav L=>av = .d (rh v.round v.af)/\L=[]) h1 ?_;rintro _ _ ⟨rfl,rfl⟩;refine rdv ?_;refine aQ h2 ?_;refine cP Ge ?_;refine cP Yc ?_;refine aQ h3 ?_
 (refine Or.inr ?_;(conv=>whnf))
 refine aQ h4 ?_;exact ⟨rfl,rfl⟩
theorem bJ {l:List bb} {k:Nat} {c:bb} (h:l[k]? = some c):(ax l)[k]? = some c.cs:=by simp [ax,h]
def QC (c:bb) (r a:Int):Int:=if j_ c.round r≠0 then j_ c.round r else j_ c.af a
theorem Eu (c:bb) (r a:Int) (h1:gL c.round) (h2:gL c.af) (hr:gL r) (ha:gL a):zA 220 [c.av,.d (rh r a)] [] (pQ (.k (QC c r a)) []):=by
 refine dB func220 ntmps220 ?_;refine aQ (pb c) ?_
 ((with_reducible refine (qd h1 hr).mono ?_);rintro _ _ ⟨rfl,rfl⟩;(conv=>whnf))
 (refine eF ?_)
 ((with_reducible refine (qd h2 ha).mono ?_);rintro _ _ ⟨rfl,rfl⟩;(conv=>whnf))
 (refine eF ?_)
 (refine Or.inl ?_;(conv=>whnf))
 ((with_reducible refine (aac (j_ c.round r) (j_ c.af a)).mono ?_);rintro _ _ ⟨rfl,rfl⟩;(conv=>whnf))
 exact ⟨rfl,rfl⟩
def bb.before (c:bb) (r a:Int):Bool:=decide (c.round<r∨c.round=r/\c.af<a)
def cI (l:List bb) (r a:Int):Nat:=(l.filter λc=>c.before r a).length
def jW (l:List bb):Prop:=l.Pairwise λx y=>x.before y.round y.af=true
def acW (l:List bb):Prop:=∀ c∈l,gL c.round/\gL c.af
def Hg (l:List bb) (r a:Int):Option bb:=l.find? λc=>decide (c.round=r/\c.af=a)
theorem cQ {c:bb} {r a:Int}:c.before r a=true↔c.round<r∨c.round=r/\c.af<a:=by simp [bb.before]
theorem Gx (l:List bb) (r a:Int):cI l r a<=l.length:=mv ..
theorem nc {r a:Int}:∀ {l:List bb} {m:Nat} {c:bb},jW l->l[m]? = some c->(c.before r a=true↔m<cI l r a)
 | [],m,c,_,h=>by simp at h
 | x :: t,m,c,hs,h=>by
   have bP:=Sb.1 hs
   cases hx:x.before r a with
   | true =>
     have hp:cI (x :: t) r a=cI t r a+1:=by simp [cI,hx]
     cases m with
     | zero =>
       simp only [KF,ke] at h;subst h;rw [hp];simp [hx]
     | succ m =>
       rw [ue] at h;rw [nc bP.2 h,hp];omega
   | false =>
     have bK:∀ y∈t,y.before r a=false:=by
      intro y hy;have h1:=cQ.1 (bP.1 y hy)
      cases hb:y.before r a with
      | false=>rfl
      | true =>
        have h2:=cQ.1 hb;have:x.before r a=true:=cQ.2 oM;rw [hx] at this;cases this
     have hp:cI (x :: t) r a=0:=by
      unfold cI;rw [Nr.2]
      ·rfl
      ·intro y hy;rcases jy.1 hy with rfl|hy
       ·simp [hx]
       ·simp [bK y hy]
     have hc:c.before r a=false:=by
      cases m with
      | zero =>
        simp only [KF,ke] at h;subst h;exact hx
      | succ m =>
        rw [ue] at h;exact bK c (fU h)
     rw [hp,hc];simp
theorem Ah {l:List bb} {r a:Int} (hs:jW l):Hg l r a=(l[cI l r a]?).filter λc=>decide (c.round=r/\c.af=a):=by
 obtain ⟨k,hk⟩:∃ k,cI l r a=k:=⟨_,rfl⟩
 cases hc:Hg l r a with
 | none =>
   unfold Hg at hc;rw [ZH] at hc
   cases hg:l[cI l r a]? with
   | none=>rfl
   | some c =>
     have:=hc c (fU hg);simp only [Option.filter,this];rfl
 | some c =>
   have lp:decide (c.round=r/\c.af=a)=true:=by
    have:=List.find?_some hc;simpa using this
   have i_:c∈l:=zd7 hc;obtain ⟨m,hm⟩:=Ds i_;have ri:=gQ lp;have RR:¬m<cI l r a:=λh=>by
    have:=cQ.1 ((nc hs hm).2 h);omega
   have heq:m=cI l r a:=by
    rcases qZ (cI l r a) m with h|h
    ·exfalso;have bB:m<l.length:=by
      rcases qZ m l.length with h2|h2
      ·exact h2
      ·rw [Ns h2] at hm;cases hm
     obtain ⟨x,hx⟩:∃ x,l[cI l r a]? = some x:=⟨_,ff oM⟩;have hb:x.before c.round c.af=true:=by
      have:=CL.1 hs (cI l r a) m oM bB h;rw [ff oM] at hx hm
      cases hx;cases hm;exact this
     rw [ri.1,ri.2] at hb;have:=(nc hs hx).1 hb;omega
    ·omega
   rw [<-heq,hm];simp only [Option.filter,lp];rfl
theorem Vd {c:bb} {r a:Int}:QC c r a<0↔c.before r a=true:=by
 rw [cQ];unfold QC j_;split<;>split<;>(try split)<;>(try split)<;>omega
theorem QD {c:bb} {r a:Int}:QC c r a=0↔c.round=r/\c.af=a:=by
 unfold QC j_;split<;>split<;>(try split)<;>(try split)<;>omega
theorem JL (l:List bb) (r a:Int) (hl:aU l) (hs:jW l) (hf:acW l) (hr:gL r) (ha:gL a):zA 219 [.d (.sl 3 (ax l)),.d (rh r a),.fn 220 []] [] (pQ (.tup [.k (cI l r a),.d (.bool (Hg l r a).isSome)]) []):=by
 have bR:=aV l;unfold aU at hl;refine dB func219 ntmps219 ?_;refine aH aF bf aG (σ:=Nat×Nat) (λs=>([(0,.d (.sl 3 (ax l))),(1,.d (rh r a)),(2,.fn 220 []),(8,.k l.length),(9,.k s.1),(10,.k s.2)],[])) (λs=>s.1<=cI l r a/\cI l r a<=s.2/\s.2<=l.length) (λs=>s.2 - s.1) [0,1,2,8,9,10] ?_ ?_
 ·conv=>whnf
  exact ⟨(0,l.length),by rw [bR];rfl,rfl,br _,Gx l r a,eQ _⟩
 ·rintro ⟨i,j⟩ ⟨h1,h2,h3⟩;simp only at h1 h2 h3;refine rdv ?_;repeat' (apply tw<;>intro _)
  ·rename_i ru;intro z hz
   conv=>whnf
   refine ⟨dC,?_⟩;intro z1 pB
   conv=>whnf
   intro z2 oA;have hh:=half oM oM hz pB oA;subst hh;clear hz pB oA;obtain ⟨h,hh⟩:∃ h,(i+j) / 2=h:=⟨_,rfl⟩;rw [hh];obtain ⟨c,hc⟩:=eH l h;obtain ⟨f1,f2⟩:=hf c (fU hc)
   conv=>whnf
   refine ⟨oM,c.cs,bJ hc,?_⟩;refine rdv ?_;refine (Eu c r a f1 f2 hr ha).mono ?_;rintro _ _ ⟨rfl,rfl⟩;have hp:=nc (r:=r) (a:=a) hs hc;rw [<-Vd] at hp;refine rdv ?_;repeat' (apply tw<;>intro _)
   ·rename_i hn;exact ⟨(h+1,j),rfl,rfl,⟨by have:=hp.1 hn;show h+1<=_;omega,h2,h3⟩,by show j - (h+1)<j - i;omega⟩
   ·rename_i hn;exact ⟨(i,h),rfl,rfl,⟨h1,by show _<=h;rcases qZ h (cI l r a) with h4|h4;exact absurd (hp.2 h4) hn;exact h4,by show h<=_;omega⟩,by show h - i<j - i;omega⟩
  ·have ru:¬(i:Int)<j:=aM;have bB:(i:Int)<l.length:=aM;obtain rfl:i=cI l r a:=oM;obtain ⟨c,hc⟩:∃ c,l[cI l r a]? = some c:=⟨_,ff oM⟩;obtain ⟨f1,f2⟩:=hf c (fU hc);rw [Ah hs];refine ⟨oM,c.cs,bJ hc,?_⟩;refine rdv ?_;refine (Eu c r a f1 f2 hr ha).mono ?_;rintro _ _ ⟨rfl,rfl⟩
   conv=>whnf
   refine ⟨?_,rfl⟩;have e:(Option.filter (λc:bb=>decide (c.round=r/\c.af=a)) l[cI l r a]?).isSome=(QC c r a == 0):=by
    rw [hc,zeC,xd,QD];by_cases hd:c.round=r/\c.af=a<;>simp [Option.filter,hd]
   rw [e]
  ·have ru:¬(i:Int)<j:=aM;have bB:¬(i:Int)<l.length:=aM;obtain rfl:i=cI l r a:=oM;rw [Ah hs,Ns oM];exact ⟨rfl,rfl⟩
theorem JM (l:List bb) (r a:Int) (hl:aU l) (hs:jW l) (hf:acW l) (hr:gL r) (ha:gL a):zA 177 [.d (.sl 3 (ax l)),.d (rh r a)] [] (pQ (.tup [.k (cI l r a),.d (.bool (Hg l r a).isSome)]) []):=by
 refine dB func177 ntmps177 ?_
 (refine (JL l r a hl hs hf hr ha).mono ?_;rintro _ _ ⟨rfl,rfl⟩;(conv=>whnf))
 exact ⟨rfl,rfl⟩
def bX (l:List bb) (v:bb):Int:=match Hg l v.round v.af with
 | some y=>if y.ae=v.ae then 4 else 5
 | none=>if l.length=65536 then 8 else 0
def B1 (l:List bb) (v:bb):List bb:=l.take (cI l v.round v.af)++v :: l.drop (cI l v.round v.af)
def jX (l:List bb) (v:bb):List bb:=if bX l v=0 then B1 l v else l
structure h_ (v:bb):Prop where
 round:1<=v.round/\v.round<=1099511627776
 af:1<=v.af/\v.af<=16
 ae:1<=v.ae/\v.ae<=65536
structure cW (l:List bb):Prop where
 len:l.length<=65536
 aA:∀ v∈l,h_ v
 sorted:jW l
theorem h_.fit {v:bb} (h:h_ v):gL v.round/\gL v.af:=by
 have h1:=h.round;have h2:=h.af;exact ⟨⟨oM,oM⟩,⟨oM,oM⟩⟩
theorem cW.fit {l:List bb} (h:cW l):acW l:=λv hv=>(h.aA v hv).fit
theorem cW.aU {l:List bb} (h:cW l):aU l:=by have:=h.len;unfold Go.Proofs.YtolkmjfkkkiboaaGreat.aU;omega
theorem YK (l:List bb) (c:bb) (i:Nat):(ax l).take i++c.cs :: (ax l).drop i=ax (l.take i++c :: l.drop i):=by simp [ax]
theorem Mx (l:List bb) (c:bb) (i:Nat) (hi:i<=l.length) (hl:l.length<=4294967296):zA 178 [.arr 0,.k i,.arr 1] [.row 106 3 (ax l) false,.row 106 3 [c.cs] false] (pQ (.arr 2) [.dead,.row 106 3 [c.cs] false,.row 106 3 (ax (l.take i++c :: l.drop i)) false]):=by
 have bR:=aV l;rcases Nat.lt_or_eq_of_le hi with h|h
 ·have:=Dg (ax l) c.cs i oM oM;rw [YK] at this;exact this
 ·subst h;have:=B0 (ax l) (λcs ck=>by obtain ⟨c,_,rfl⟩:=px.1 ck;rfl) c.cs rfl oM;rw [bR] at this;rw [lD,ze6];simpa [ax] using this
def acX:a_:=⟨[[],[0],[],[],[3],[3,4,2,0,1],[1,0,2,4,3,5],[5,3,4,2,0,1,6]],[0,2,3],[(1,[]),(4,[]),(5,[6,7])]⟩
def YL:a_:=⟨[[],[0],[],[],[3],[3,4,2,0,1],[1,0,2,4,3,5],[5,3,4,2,0,1,6]],[0,2,3],[(4,[]),(1,[]),(5,[6,7])]⟩
theorem JN (l:List bb) (h:cW l) (v:bb) (hv:gL v.round/\gL v.af):zA 142 [.d (.sl 3 (ax l)),v.av] [] (λav L=>(bX l v≠0/\av = .tup [.d (.sl 3 (ax l)),.k (bX l v)]/\L=[])∨(bX l v=0/\av = .tup [.arr 0,.k 0]/\L=[.row 106 3 (ax (B1 l v)) false])):=by
 have bR:=aV l;have hlen:=h.len;have hps:=Gx l v.round v.af;refine Qa func142 ntmps142 ?_;refine aQ (pb v) ?_;refine (JM l v.round v.af h.aU h.sorted h.fit hv.1 hv.2).mono ?_;rintro _ _ ⟨rfl,rfl⟩
 cases ij:Hg l v.round v.af with
 | none =>
   refine rdv ?_;refine cP Ge ?_;repeat' (apply tw<;>intro _)
   ·have hf:((ax l).length:Int)=65536:=aM;have e:bX l v=8:=by rw [bX,ij];simp only;rw [bp oM]
    rw [e];exact .inl ⟨dC,rfl,rfl⟩
   ·have hf:¬((ax l).length:Int)=65536:=aM;have e:bX l v=0:=by rw [bX,ij];simp only;rw [aR oM]
    (with_reducible refine oW aF bf aG cB acX YL ?_ ?_)
    focus kernel_rfl
    refine rdv ?_;constructor
    all_goals
     refine rdv ?_;refine aQ (qi l oM) ?_
     (refine Or.inr ?_;(conv=>whnf))
     refine aQ (Mx l v _ hps oM) ?_;exact .inr ⟨e,rfl,rfl⟩
 | some y =>
   have UP:l[cI l v.round v.af]? = some y:=by
    rw [Ah h.sorted] at ij;exact (zd8.1 ij).1
   have bB:=(dW.1 UP).1;refine rdv ?_;refine cP Ge ?_
   ((with_reducible apply aC);(focus (intro K hK;(conv=>whnf);exact ⟨oM,y.cs,bJ UP,hK⟩));(conv=>whnf))
   refine eF ?_;repeat' (apply tw<;>intro _)
   ·rename_i h2;have e:bX l v=4:=by rw [bX,ij];simp only;rw [bp h2]
    rw [e];exact .inl ⟨dC,rfl,rfl⟩
   ·rename_i h2;have e:bX l v=5:=by rw [bX,ij];simp only;rw [aR h2]
    rw [e];exact .inl ⟨dC,rfl,rfl⟩
theorem B2 (l:List bb) (h:cW l) (v:bb) (hv:gL v.round/\gL v.af):zA 142 [.d (.sl 3 (ax l)),v.av] [] (pQ (.tup [.d (.sl 3 (ax (jX l v))),.k (bX l v)]) []):=by
 refine bT (JN l h v hv) ?_;rintro _ _ (⟨h,rfl,rfl⟩|⟨h,rfl,rfl⟩)
 ·rw [jX,aR h]
  conv=>whnf
  exact ⟨rfl,rfl⟩
 ·rw [jX,bp h,h]
  conv=>whnf
  exact ⟨rfl,rfl⟩
def gI (l:List bb) (r a:Int):Int:=((Hg l r a).map (·.ae)).getD 0
theorem QE (l:List bb) (h:cW l) (r a:Int) (hr:gL r) (ha:gL a):zA 200 [.d (.sl 3 (ax l)),.d (rh r a)] [] (pQ (.k (gI l r a)) []):=by
 have hlen:=h.len;refine dB func200 ntmps200 ?_;refine (JM l r a h.aU h.sorted h.fit hr ha).mono ?_;rintro _ _ ⟨rfl,rfl⟩
 cases ij:Hg l r a with
 | none =>
   refine rdv ?_;rw [gI,ij];exact ⟨rfl,rfl⟩
 | some y =>
   have UP:l[cI l r a]? = some y:=by
    rw [Ah h.sorted] at ij;exact (zd8.1 ij).1
   have bB:=(dW.1 UP).1;refine rdv ?_;refine ⟨oM,y.cs,bJ UP,?_⟩
   conv=>whnf
   rw [gI,ij];exact ⟨rfl,rfl⟩
theorem My (r a:Int):zA 172 [.k r,.k a] [] (pQ (.d (.bool (decide (0<=r/\r<=1099511627776/\1<=a/\a<=16)))) []):=by
 refine gG func172 ntmps172 ?_;repeat' (apply tw<;>intro _)
 ·rename_i h1 h2 h3;exact ⟨bu (by simp;omega),rfl⟩
 all_goals exact ⟨by rw [aP oM];rfl,rfl⟩
open Classical in
theorem JO (v:bb):zA 127 [v.av] [] (pQ (.d (.bool (decide (h_ v)))) []):=by
 refine gG func127 ntmps127 ?_;repeat' (apply tw<;>intro _)
 ·rename_i h1;refine aQ (My v.round v.af) ?_;repeat' (apply tw<;>intro _)
  ·rename_i h2;refine (fG v.ae).mono ?_;rintro _ _ ⟨rfl,rfl⟩
   conv=>whnf
   refine ⟨bu ?_,rfl⟩;simp only [jh];exact ⟨λh=>⟨oM,oM,h⟩,λh=>h.ae⟩
  ·rename_i h2;exact ⟨by rw [aP (λh=>h2 (by have:=h.round;have:=h.af;omega))];rfl,rfl⟩
 ·rename_i h1;exact ⟨by rw [aP (λh=>h1 (by have:=h.round;omega))];rfl,rfl⟩
structure YM (l:List bb) (j:Nat):Prop where
 aA:∀ v∈l.take j,h_ v
 sorted:jW (l.take j)
theorem sX {l:List bb} {j:Nat} {v:bb} (hv:l[j]? = some v) (h:YM l j) (h1:h_ v) (h2:∀ y,0<j->l[j - 1]? = some y->y.before v.round v.af=true):YM l (j+1):=by
 refine ⟨λx hx=>?_,?_⟩
 ·rw [iu,hv] at hx;rcases gA.1 hx with hx|hx
  ·exact h.aA x hx
  ·simp at hx;subst hx;exact h1
 ·rw [jW,iu,hv];refine Hi.2 ⟨h.sorted,by simp,λx hx y hy=>?_⟩;simp at hy;subst hy;obtain ⟨i,hi,rfl⟩:=G4.1 hx;have dM:=(dW.1 hv).1;have hb:=h2 l[j - 1] oM (ff oM);by_cases ru:i=j - 1
  ·subst ru;exact hb
  ·have hs:=CL.1 h.sorted i (j - 1) (by simp;omega) (by simp;omega) oM;simp only [zdY] at hs;have hs:=cQ.1 hs;have hb:=cQ.1 hb;exact cQ.2 oM
open Classical in
theorem Gy (l:List bb) (hl:aU l):zA 74 [.d (.sl 3 (ax l))] [] (pQ (.d (.bool (decide (cW l)))) []):=by
 have bR:=aV l;unfold aU at hl;refine dB func74 ntmps74 ?_;refine mU aF bf aG (σ:=Nat) (λj=>([(0,.d (.sl 3 (ax l))),(3,.k j)],[])) (λk j=>(k=1/\j<=l.length/\l.length<=65536/\YM l j)∨(k=0/\¬cW l)) (λk j=>if k=0 then 0 else l.length - j+1) ?_ ?_
 ·rintro k rest hk j (⟨rfl,hj,hlen,hm⟩|⟨rfl,fu⟩)
  ·have e:=Hl (show some _=some rest from hk);subst e;clear hk;refine rdv ?_;repeat' (apply tw<;>intro _)
   ·have h:(j:Int)=((ax l).length:Int):=aM;rw [bR] at h;obtain rfl:j=l.length:=oM;have:cW l:=⟨hlen,λv hv=>hm.aA v (by rwa [lD]),by have:=hm.sorted;rwa [lD] at this⟩;exact ⟨by rw [cz this];rfl,rfl⟩
   ·have h:¬(j:Int)=((ax l).length:Int):=aM;rw [bR] at h;refine eG l j λv hv=>?_;have dM:=(dW.1 hv).1;refine cP acr ?_
    ((with_reducible apply aC);(focus (intro K hK;(conv=>whnf);exact iB hv (by first|rfl|omega) hK));(conv=>whnf))
    (refine eF ?_)
    refine (JO v).mono ?_;rintro _ _ ⟨rfl,rfl⟩;by_cases tG:h_ v
    ·rw [cz tG];refine rdv ?_;repeat' (apply tw<;>intro _)
     ·have h0:(j:Int)=0:=aM;refine cV [0,3] ?_
      conv=>whnf
      exact ⟨j+1,rfl,rfl,.inl ⟨rfl,oM,hlen,sX hv hm tG (λy h1 _=>oM)⟩,by simp;omega⟩
     ·have h0:¬(j:Int)=0:=aM;refine nu (⟨_,ff oM⟩:∃ v,l[j - 1]? = some v) λy hy=>?_
      ((with_reducible apply aC);(focus (intro K hK;(conv=>whnf);exact ⟨oM,y.cs,(by rw [show ((j:Int) - 1).toNat=j - 1 by omega];exact bJ hy),hK⟩));(conv=>whnf))
      (refine eF ?_)
      ((with_reducible apply aC);(focus (intro K hK;(conv=>whnf);exact ⟨oM,v.cs,bJ hv,hK⟩));(conv=>whnf))
      repeat' (first|(refine jz ?_)|((with_reducible apply eT);(focus ((conv=>whnf);intro K hK;(conv=>whnf);exact ⟨oM,y.cs,(by rw [show ((j:Int) - 1).toNat=j - 1 by omega];exact bJ hy),hK⟩));(conv=>whnf))|((with_reducible apply eT);(focus ((conv=>whnf);intro K hK;(conv=>whnf);exact ⟨oM,v.cs,bJ hv,hK⟩));(conv=>whnf)))
      refine (pb y).mono ?_;rintro _ _ ⟨rfl,rfl⟩
      conv=>whnf
      repeat' (first|(refine jz ?_)|((with_reducible apply eT);(focus ((conv=>whnf);intro K hK;(conv=>whnf);exact ⟨oM,y.cs,(by rw [show ((j:Int) - 1).toNat=j - 1 by omega];exact bJ hy),hK⟩));(conv=>whnf))|((with_reducible apply eT);(focus ((conv=>whnf);intro K hK;(conv=>whnf);exact ⟨oM,v.cs,bJ hv,hK⟩));(conv=>whnf)))
      refine aQ (pb v) ?_;have hoy:h_ y:=hm.aA y (fU (by rw [nX,bp (oM:j - 1<j)];exact hy));refine aQ (qe hoy.fit.1 hoy.fit.2 tG.fit.1 tG.fit.2) ?_;repeat' (apply tw<;>intro _)
      ·rename_i hb;refine cV [0,3] ?_
       conv=>whnf
       exact ⟨j+1,rfl,rfl,.inl ⟨rfl,oM,hlen,sX hv hm tG (λy' _ Xv=>by rw [hy] at Xv;cases Xv;exact cQ.2 hb)⟩,by simp;omega⟩
      ·rename_i hb;have fu:¬cW l:=λhh=>by
        have:=CL.1 hh.sorted (j - 1) j oM oM oM;rw [(dW.1 hv).2,(dW.1 hy).2] at this;exact hb (cQ.1 this)
       refine bH aF bf aG ?_;refine rdv ?_;exact ⟨by rw [aP fu];rfl,rfl⟩
    ·rw [aP tG];refine rdv ?_;refine bH aF bf aG ?_;refine rdv ?_;exact ⟨by rw [aP (λhh:cW l=>tG (hh.aA v (fU hv)))];rfl,rfl⟩
  ·have e:=Hl (show some _=some rest from hk);subst e;clear hk;refine rdv ?_;exact ⟨by rw [aP fu];rfl,rfl⟩
 ·intro pass;refine rdv ?_;repeat' (apply tw<;>intro _)
  ·rename_i h;refine cV [0,3] ?_
   conv=>whnf
   exact ⟨0,rfl,rfl,.inr ⟨rfl,λhh=>by have:=hh.len;omega⟩⟩
  ·rename_i h;refine fq (σ:=Unit) (λ_=>([(0,.d (.sl 3 (ax l))),(3,.k (0:Nat))],[])) (λ_=>True) [0,3] ?_ ?_
   ·conv=>whnf
    exact ⟨(),rfl,rfl,trivial⟩
   ·intro _ _;exact pass 1 _ rfl 0 (.inl ⟨rfl,br _,oM,⟨by simp,by simp [jW]⟩⟩)
structure nf (p:Prim):Prop where
 none:p.dD=0->p.aK.af=0/\p.aK.round=0/\p.aK.aE=[]/\p.aK.ao=[]/\p.aL=[]
 dD:p.dD≠0->1<=p.dD/\p.dD<=65536
 head:p.dD≠0->eB p.nodes p.aK
 af:p.dD≠0->p.aK.af=p.id
 round:p.dD≠0->p.aK.round=p.said
 aL:p.dD≠0->dh p.aL 1 p.nodes
 less:p.dD≠0->(p.aL.length:Int)<quo p.nodes
structure ng (n:Int) (l:List Cert):Prop where
 len:l.length<=256
 Dh:ct l
 aa:∀ c∈l,bM n c
structure ec (p:Prim):Prop where
 fl:jA p.nodes=true
 id:1<=p.id/\p.id<=p.nodes
 round:1<=p.round/\p.round<=1099511627776
 iq:0<=p.iq/\p.iq<=1099511627776
 said:0<=p.said/\p.said<=p.round
 aK:nf p
 aA:cW p.aA
 aq:Valid p.aq
 same:p.aq.nodes=p.nodes
 late:ng p.nodes p.late
structure Prim.ok (p:Prim):Prop where
 aK:p.aK.ok
 sigs:p.aK.sigs.length<=1099511627776
 aL:aU p.aL
 aA:aU p.aA
 aq:p.aq.ok
 late:aU p.late/\∀ c∈p.late,c.ok
open Classical in
theorem QF (p:Prim) (bw:p.ok) (hn:jA p.nodes=true):zA 73 [p.av] [] (pQ (.d (.bool (decide (nf p)))) []):=by
 have hb:=bw.aK.aE.1;have hp:=bw.aK.ao.1;have ha:=bw.aL;have jl:=nums_length p.aK.aE;have fT:=nums_length p.aK.ao;have Mz:=nums_length p.aL;have kx:=gQ hn;unfold aU at hb hp ha;refine gG func73 ntmps73 ?_;repeat' (apply tw<;>intro _)
 ·rename_i h0 h1 h2;refine ⟨bu ?_,rfl⟩;simp only [xd,jh];constructor
  ·intro h;have e1:p.aK.aE=[]:=oy oM;have e2:p.aK.ao=[]:=oy oM;have e3:p.aL=[]:=oy oM;exact ⟨λ_=>⟨h1,h2,e1,e2,e3⟩,λh=>absurd h0 h,λh=>absurd h0 h,λh=>absurd h0 h,λh=>absurd h0 h,λh=>absurd h0 h,λh=>absurd h0 h⟩
  ·intro h;obtain ⟨_,_,e1,e2,e3⟩:=h.none h0;rw [e1] at jl;rw [e2] at fT;rw [e3] at Mz;simp at jl fT Mz;simp [e1,e2,e3,nums]
 ·rename_i h0 h1 h2;exact ⟨by rw [aP (λh:nf p=>h2 (h.none h0).2.1)];rfl,rfl⟩
 ·rename_i h0 h1;exact ⟨by rw [aP (λh:nf p=>h1 (h.none h0).1)];rfl,rfl⟩
 ·rename_i h0;refine cP acq ?_;refine aQ (fG p.dD) ?_;repeat' (apply tw<;>intro _)
  ·rename_i h1;refine aQ (wg p.aK (sS bw.aK) p.nodes) ?_;repeat' (apply tw<;>intro _)
   ·rename_i h2 h3 h4;refine aQ (uJ p.aL bw.aL 1 p.nodes) ?_;repeat' (apply tw<;>intro _)
    ·rename_i h5;refine aQ (UC p.nodes ⟨oM,oM⟩) ?_;refine ⟨bu ?_,rfl⟩;simp only [jh,Mz];exact ⟨λh=>⟨λh6=>absurd h6 h0,λ_=>h1,λ_=>h2,λ_=>h3,λ_=>h4,λ_=>h5,λ_=>h⟩,λh=>h.less h0⟩
    ·rename_i h5;exact ⟨by rw [aP (λh:nf p=>h5 (h.aL h0))];rfl,rfl⟩
   ·rename_i h2 h3 h4;exact ⟨by rw [aP (λh:nf p=>h4 (h.round h0))];rfl,rfl⟩
   ·rename_i h2 h3;exact ⟨by rw [aP (λh:nf p=>h3 (h.af h0))];rfl,rfl⟩
   ·rename_i h2;exact ⟨by rw [aP (λh:nf p=>h2 (h.head h0))];rfl,rfl⟩
  ·rename_i h1;exact ⟨by rw [aP (λh:nf p=>h1 (h.dD h0))];rfl,rfl⟩
open Classical in
theorem QG (n:Int) (l:List Cert) (hl:aU l) (hc:∀ c∈l,gr c):zA 76 [.d (.sl 6 (ah l)),.k n] [] (pQ (.d (.bool (decide (ng n l)))) []):=by
 have bR:=ak l;have Hb:=hl;unfold aU at Hb;refine dB func76 ntmps76 ?_;refine aH aF bf aG (σ:=Nat) (λj=>([(0,.d (.sl 6 (ah l))),(1,.k n),(7,.d (.sl 6 (ah l))),(8,.k l.length),(9,.k j)],[])) (λj=>j<=l.length/\ct (l.take j)/\∀ c∈l.take j,bM n c) (λj=>l.length - j) [0,1,7,8,9] ?_ ?_
 ·conv=>whnf
  exact ⟨0,by rw [bR];rfl,rfl,br _,by simp [ct],by simp⟩
 ·rintro j ⟨hj,hr,ho⟩;refine rdv ?_;repeat' (apply tw<;>intro _)
  ·rename_i dM;refine eG l j λc OI=>?_;have i_:=fU OI;have hm:=mY c (hc c i_) n;have dq:l.take (j+1)=l.take j++[c]:=by rw [iu,OI];rfl
   have JP:bM n c->(∀ b,0<j->l[j - 1]? = some b->b.ae<c.ae)->ct (l.take (j+1))/\∀ c∈l.take (j+1),bM n c:=by
    intro h1 h2;rw [dq];refine ⟨Hi.2 ⟨hr,by simp,λx hx y hy=>?_⟩,λx hx=>?_⟩
    ·simp at hy;subst hy;obtain ⟨i,hi,rfl⟩:=G4.1 hx;have hb:=h2 l[j - 1] oM (ff oM);by_cases ru:i=j - 1
     ·subst ru;exact hb
     ·have hs:=CL.1 hr i (j - 1) (by simp;omega) (by simp;omega) oM;simp only [zdY] at hs;omega
    ·rcases gA.1 hx with hx|hx
     ·exact ho x hx
     ·simp at hx;subst hx;exact h1
   refine ⟨oM,c.cs,aB OI,?_⟩;refine rdv ?_;refine cP Uj ?_;refine hm.mono ?_;rintro _ _ ⟨rfl,rfl⟩;by_cases QH:bM n c
   ·rw [cz QH];refine rdv ?_;repeat' (apply tw<;>intro _)
    ·have CF:(j:Int)>0:=aM;refine nu (⟨_,ff oM⟩:∃ b,l[j - 1]? = some b) λb hb=>?_
     ((with_reducible apply aC);(focus (intro K hK;(conv=>whnf);exact ⟨oM,b.cs,(by rw [show ((j:Int) - 1).toNat=j - 1 by omega];exact aB hb),hK⟩));(conv=>whnf))
     repeat' (first|(refine jz ?_;repeat' (apply tw<;>intro _))|((with_reducible apply eT);(focus ((conv=>whnf);intro K hK;(conv=>whnf);exact ⟨oM,b.cs,(by rw [show ((j:Int) - 1).toNat=j - 1 by omega];exact aB hb),hK⟩));(conv=>whnf)))
     ·have h:b.ae≥c.ae:=aM;have fu:¬ng n l:=λhh=>by
       have:=CL.1 hh.Dh (j - 1) j oM oM oM;rw [(dW.1 hb).2,(dW.1 OI).2] at this;omega
      exact ⟨by rw [aP fu];rfl,rfl⟩
     ·have h:¬b.ae≥c.ae:=aM;exact ⟨j+1,rfl,rfl,⟨oM,JP QH (λb' _ kg=>by rw [hb] at kg;cases kg;omega)⟩,oM⟩
    ·have CF:¬(j:Int)>0:=aM;exact ⟨j+1,rfl,rfl,⟨oM,JP QH (λb' h0 _=>oM)⟩,oM⟩
   ·rw [aP QH];refine rdv ?_;exact ⟨by rw [aP (λhh:ng n l=>QH (hh.aa c i_))];rfl,rfl⟩
  ·rename_i dM;have BP:l.take j=l:=gx oM;rw [BP] at hr ho;refine ⟨bu ?_,rfl⟩;simp only [jh];exact ⟨λh=>⟨oM,hr,ho⟩,λh=>by have:=h.len;omega⟩
open Classical in
theorem mj (p:Prim) (bw:p.ok):zA 41 [p.av] [] (pQ (.d (.bool (decide (ec p)))) []):=by
 have hi:=Ee p.nodes;have hv:=Gy p.aA bw.aA;have hd:=y7 p.aq bw.aq;have hl:=QG p.nodes p.late bw.late.1 (λc hc=>sS (bw.late.2 c hc));refine gG func41 ntmps41 ?_;refine hi.mono ?_;rintro _ _ ⟨rfl,rfl⟩
 cases hn:jA p.nodes with
 | false =>
   refine rdv ?_;exact ⟨by rw [aP (λh:ec p=>by have:=h.fl;rw [hn] at this;cases this)];rfl,rfl⟩
 | true =>
   have hm:=QF p bw hn;refine rdv ?_;repeat' (apply tw<;>intro _)
   all_goals first
    | exact ⟨by rw [aP (λh:ec p=>by have:=h.id;have:=h.round;have:=h.iq;have:=h.said;omega)];rfl,rfl⟩
    | skip
   refine aQ hm ?_;repeat' (apply tw<;>intro _)
   ·rename_i k8;refine aQ hv ?_;repeat' (apply tw<;>intro _)
    ·rename_i k9;refine hd.mono ?_;rintro _ _ ⟨rfl,rfl⟩;by_cases hva:Valid p.aq
     ·rw [wx hva];refine rdv ?_;repeat' (apply tw<;>intro _)
      ·rename_i Ve;refine aQ hl ?_;refine ⟨bu ?_,rfl⟩;simp only [jh];exact ⟨λh=>⟨hn,oM,oM,oM,oM,k8,k9,hva,Ve,h⟩,λh=>h.late⟩
      ·rename_i Ve;exact ⟨by rw [aP (λh:ec p=>Ve h.same)];rfl,rfl⟩
     ·rw [Gn hva];refine rdv ?_;exact ⟨by rw [aP (λh:ec p=>hva h.aq)];rfl,rfl⟩
    ·rename_i k9;exact ⟨by rw [aP (λh:ec p=>k9 h.aA)];rfl,rfl⟩
   ·rename_i k8;exact ⟨by rw [aP (λh:ec p=>k8 h.aK)];rfl,rfl⟩
def Tx.av (t:Tx):AV := .agg (t.cs.map AV.d)
theorem iM (l:List Tx):(dr l).length=l.length:=tg ..
theorem wG {l:List Tx} {k:Nat} {c:Tx} (h:l[k]? = some c):(dr l)[k]? = some c.cs:=by simp [dr,h]
structure qW (t:Tx):Prop where
 oh:1<=t.oh/\t.oh<=1099511627776
 seq:1<=t.seq/\t.seq<=1099511627776
 key:1<=t.key.size/\t.key.size<=16
 val:t.val.size<=32
theorem aaA (k:ByteArray):(k.toList == (⟨#[]⟩:ByteArray).toList)=false↔1<=k.size:=by
 rw [ByteArray.toList_eq,ByteArray.toList_eq];constructor
 ·intro h;rcases Hk k.size with h0|h0
  ·have:k.data.toList=[]:=oy (by simpa using h0);rw [this] at h;simp at h
  ·exact h0
 ·intro h;have:k.data.toList≠[]:=λe=>by
   have:=lM List.length e;simp at this;simp [this] at h
  cases hk:k.data.toList with
  | nil=>exact absurd hk this
  | cons a t=>rfl
open Classical in
theorem Vf (t:Tx):zA 234 [t.av] [] (pQ (.d (.bool (decide (qW t)))) []):=by
 refine gG func234 ntmps234 ?_;repeat' (apply tw<;>intro _)
 ·rename_i h1 h2 h3 h4 h5 h6;rw [aaA] at h5;exact ⟨bu (by simp only [jh];exact ⟨λh=>⟨oM,oM,oM,oM⟩,λh=>by have:=h.val;omega⟩),rfl⟩
 ·rename_i h1 h2 h3 h4 h5 h6;exact ⟨by rw [aP (λh:qW t=>by have:=h.key;omega)];rfl,rfl⟩
 ·rename_i h1 h2 h3 h4 h5;exact ⟨by rw [aP (λh:qW t=>by rw [(aaA t.key).2 h.key.1] at h5;cases h5)];rfl,rfl⟩
 all_goals exact ⟨by rw [aP (λh:qW t=>by have:=h.oh;have:=h.seq;omega)];rfl,rfl⟩
open Classical in
theorem MA (t:Tx):zA 233 [t.av] [] (pQ (.d (.bool (decide (¬qW t)))) []):=by
 refine gG func233 ntmps233 ?_;refine (Vf t).mono ?_;rintro _ _ ⟨rfl,rfl⟩
 conv=>whnf
 exact ⟨bu (by simp),rfl⟩
open Classical in
theorem MB (l:List Tx) (hl:aU l):zA 255 [.d (.sl 4 (dr l)),.fn 233 []] [] (λav L=>(∃ z:Int,av = .k z/\(0<=z↔¬∀ t∈l,qW t))/\L=[]):=by
 have bR:=iM l;unfold aU at hl;refine dB func255 ntmps255 ?_;refine aH aF bf aG (σ:=Nat) (λj=>([(0,.d (.sl 4 (dr l))),(1,.fn 233 []),(7,.k l.length),(8,.k j)],[])) (λj=>j<=l.length/\∀ t∈l.take j,qW t) (λj=>l.length - j) [0,1,7,8] ?_ ?_
 ·conv=>whnf
  exact ⟨0,by rw [bR];rfl,rfl,br _,by simp⟩
 ·rintro j ⟨hj,ho⟩;refine rdv ?_;repeat' (apply tw<;>intro _)
  ·rename_i dM;refine eG l j λt ht=>?_;refine ⟨oM,t.cs,wG ht,?_⟩
   conv=>whnf
   refine (MA t).mono ?_;rintro _ _ ⟨rfl,rfl⟩;by_cases h:qW t
   ·rw [aP (λhh=>hh h)];refine rdv ?_;refine ⟨j+1,rfl,rfl,⟨oM,λx hx=>?_⟩,oM⟩;rw [iu,ht] at hx;rcases gA.1 hx with hx|hx
    ·exact ho x hx
    ·simp at hx;subst hx;exact h
   ·rw [cz h];refine rdv ?_;exact ⟨⟨j,rfl,by constructor;(intro _ hh;exact h (hh t (fU ht)));(intro _;omega)⟩,rfl⟩
  ·rename_i dM;rw [gx oM] at ho;exact ⟨⟨-1,rfl,by constructor;(intro h;omega);(intro h;exact absurd ho h)⟩,rfl⟩
open Classical in
theorem Di (l:List Tx) (hl:aU l):zA 232 [.d (.sl 4 (dr l)),.fn 233 []] [] (pQ (.d (.bool (decide (¬∀ t∈l,qW t)))) []):=by
 refine gG func232 ntmps232 ?_;refine (MB l hl).mono ?_;rintro _ _ ⟨⟨z,rfl,hz⟩,rfl⟩
 conv=>whnf
 exact ⟨bu (by simp only [jh];exact hz),rfl⟩
structure nQ (m:aW):Prop where
 af:1<=m.ba/\m.ba<=16
 n:1<=m.bn/\m.bn<=1099511627776
 len:1<=m.dX.length/\m.dX.length<=8
 dX:∀ t∈m.dX,qW t
def aW.bav (m:aW):AV := .agg [.k m.ba,.k m.bn,.d (.sl 4 (dr m.dX))]
open Classical in
theorem y_ (m:aW) (hl:aU m.dX):zA 199 [m.bav] [] (pQ (.d (.bool (decide (nQ m)))) []):=by
 have bR:=iM m.dX;refine gG func199 ntmps199 ?_;repeat' (apply tw<;>intro _)
 all_goals first
  | exact ⟨by rw [aP (λh:nQ m=>by have:=h.af;have:=h.n;have:=h.len;omega)];rfl,rfl⟩
  | skip
 (refine (Di m.dX hl).mono ?_;rintro _ _ ⟨rfl,rfl⟩;(conv=>whnf))
 exact ⟨bu (by simp only [G6,zeK,jh,Classical.not_not];exact ⟨λh=>⟨oM,oM,oM,h⟩,λh=>h.dX⟩),rfl⟩
structure er (n:Int) (m:aW):Prop where
 kind:1<=m.kind/\m.kind<=8
 dD:m.kind<=5->1<=m.ae/\m.ae<=65536
 Vg:m.kind=1∨m.kind=3->nQ m/\m.ba<=n
 head:m.kind=4->eB n m.head/\m.head.af=m.src
 cert:m.kind=6->bM n m.cert
 aT:7<=m.kind->(1<=m.aT.length/\m.aT.length<=16)/\dh m.aT 1 65536
structure gu (m:aW):Prop where
 dD:6<=m.kind->m.ae=0
 Vg:m.kind≠1/\m.kind≠3->m.ba=0/\m.bn=0/\m.dX=[]
 head:m.kind≠4->m.head.af=0/\m.head.round=0/\m.head.aE=[]/\m.head.ao=[]
 cert:m.kind≠6->m.cert.af=0/\m.cert.round=0/\m.cert.aE=[]/\m.cert.ao=[]/\m.cert.ae=0/\m.cert.sigs=[]
 aT:m.kind<=6->m.aT=[]
structure aX (n:Int) (m:aW):Prop where
 fl:jA n=true
 src:1<=m.src/\m.src<=n
 dst:1<=m.dst/\m.dst<=n
 ne:m.src≠m.dst
 ok:er n m
 only:gu m
structure aW.cY (m:aW):Prop where
 dX:aU m.dX
 head:gr m.head
 cert:gr m.cert
 aT:aU m.aT
def ajb (b:Bool) (m:aW):List AV:=if b then [.k m.ba,.k m.bn,.d (.sl 4 (dr m.dX))] else [.k 0,.k 0,.d .nils]
def agb (b:Bool) (c:Cert):List AV:=if b then [.k c.af,.k c.round,.d (.sl 1 (nums c.aE)),.d (.sl 1 (nums c.ao))] else [.k 0,.k 0,.d .nils,.d .nils]
def ajc (b:Bool) (c:Cert):List AV:=if b then [.k c.af,.k c.round,.d (.sl 1 (nums c.aE)),.d (.sl 1 (nums c.ao)),.k c.ae,.d (.sl 1 (nums c.sigs))] else [.k 0,.k 0,.d .nils,.d .nils,.k 0,.d .nils]
def ajd (b:Bool) (l:List Int):AV:=if b then .d (.sl 1 (nums l)) else .d .nils
def MC (m:aW) (g b h c d:Bool):AV := .agg ([.k m.kind,.k m.src,.k m.dst,.k (if g then m.ae else 0)]++ajb b m++agb h m.head++ajc c m.cert++[ajd d m.aT])
def Ai (g b h c d:Bool):Prop:=(g=true/\b=true/\h=false/\c=false/\d=false)∨(g=true/\b=false/\h=false/\c=false/\d=false)∨(g=true/\b=false/\h=true/\c=false/\d=false)∨(g=false/\b=false/\h=false/\c=true/\d=false)∨(g=false/\b=false/\h=false/\c=false/\d=true)∨(g=false/\b=false/\h=false/\c=false/\d=false)
open Classical in
theorem dy {n:Int} {m:aW} {X Y:AV} (g b h c d:Bool) (B:Bool) (hX:X=MC m g b h c d) (hY:Y = .d (.bool B)) (hB:B=true↔er n m)
  (hk:er n m->g=decide (m.kind<=5)/\b=decide (m.kind=1∨m.kind=3)/\h=decide (m.kind=4)/\c=decide (m.kind=6)/\d=decide (7<=m.kind)) (qx:Ai g b h c d:=by simp [Ai]) :
  (∃ g b h c d,AV.tup [X,Y] = .tup [MC m g b h c d,.d (.bool (decide (er n m)))]/\Ai g b h c d/\(er n m->g=decide (m.kind<=5)/\b=decide (m.kind=1∨m.kind=3)/\h=decide (m.kind=4)/\c=decide (m.kind=6)/\d=decide (7<=m.kind)))/\([]:List AB)=[]:=by
 refine ⟨⟨g,b,h,c,d,?_,qx,hk⟩,rfl⟩;have:B=decide (er n m):=by rw [zeC,jh];exact hB
 rw [hX,hY,this]
open Classical in
theorem YN (m:aW) (hf:m.cY) (n:Int):zA 164 [m.av,.k n] [] (λav L=>(∃ g b h c d,av = .tup [MC m g b h c d,.d (.bool (decide (er n m)))]/\Ai g b h c d/\(er n m->g=decide (m.kind<=5)/\b=decide (m.kind=1∨m.kind=3)/\h=decide (m.kind=4)/\c=decide (m.kind=6)/\d=decide (7<=m.kind)))/\L=[]):=by
 have zx:=nums_length m.aT;refine gG func164 ntmps164 ?_;repeat' (apply tw<;>intro _)
 · · rename_i hk
     refine cP OA ?_;refine aQ (fG m.ae) ?_;repeat' (apply tw<;>intro _)
     ·rename_i h1;refine aQ (y_ m hf.dX) ?_;repeat' (apply tw<;>intro _)
      ·rename_i h2;refine dy true true false false false _ rfl rfl ?_ (λ_=>⟨by simp [hk],by simp [hk],by simp [hk],by simp [hk],by simp [hk]⟩);simp only [jh];exact ⟨λh=>⟨oM,λ_=>h1,λ_=>⟨h2,h⟩,oM,oM,oM⟩,λh=>(h.Vg oM).2⟩
      ·rename_i h2;refine dy true true false false false _ rfl rfl ?_ (λh=>absurd (h.Vg oM).1 h2);exact ⟨λh=>(by cases h),λh=>absurd (h.Vg oM).1 h2⟩
     ·rename_i h1;refine dy true true false false false _ rfl rfl ?_ (λh=>absurd (h.dD oM) h1);exact ⟨λh=>(by cases h),λh=>absurd (h.dD oM) h1⟩
 · · rename_i hk
     refine cP OA ?_;refine aQ (fG m.ae) ?_;repeat' (apply tw<;>intro _)
     ·rename_i h1;refine aQ (y_ m hf.dX) ?_;repeat' (apply tw<;>intro _)
      ·rename_i h2;refine dy true true false false false _ rfl rfl ?_ (λ_=>⟨by simp [hk],by simp [hk],by simp [hk],by simp [hk],by simp [hk]⟩);simp only [jh];exact ⟨λh=>⟨oM,λ_=>h1,λ_=>⟨h2,h⟩,oM,oM,oM⟩,λh=>(h.Vg oM).2⟩
      ·rename_i h2;refine dy true true false false false _ rfl rfl ?_ (λh=>absurd (h.Vg oM).1 h2);exact ⟨λh=>(by cases h),λh=>absurd (h.Vg oM).1 h2⟩
     ·rename_i h1;refine dy true true false false false _ rfl rfl ?_ (λh=>absurd (h.dD oM) h1);exact ⟨λh=>(by cases h),λh=>absurd (h.dD oM) h1⟩
 · · rename_i hk
     refine aQ (fG m.ae) ?_;refine dy true false false false false _ rfl rfl ?_ (λ_=>⟨by simp [hk],by simp [hk],by simp [hk],by simp [hk],by simp [hk]⟩);simp only [jh];exact ⟨λh=>⟨oM,λ_=>h,oM,oM,oM,oM⟩,λh=>h.dD oM⟩
 · · rename_i hk
     refine aQ (fG m.ae) ?_;refine dy true false false false false _ rfl rfl ?_ (λ_=>⟨by simp [hk],by simp [hk],by simp [hk],by simp [hk],by simp [hk]⟩);simp only [jh];exact ⟨λh=>⟨oM,λ_=>h,oM,oM,oM,oM⟩,λh=>h.dD oM⟩
 ·rename_i hk;refine cP Ur ?_;refine aQ (fG m.ae) ?_;repeat' (apply tw<;>intro _)
  ·rename_i h1;refine aQ (wg m.head hf.head n) ?_;repeat' (apply tw<;>intro _)
   ·rename_i h2;refine dy true false true false false _ rfl rfl ?_ (λ_=>⟨by simp [hk],by simp [hk],by simp [hk],by simp [hk],by simp [hk]⟩);simp only [xd];exact ⟨λh=>⟨oM,λ_=>h1,oM,λ_=>⟨h2,h⟩,oM,oM⟩,λh=>(h.head hk).2⟩
   ·rename_i h2;have fu:¬er n m:=λh=>h2 (h.head hk).1;exact dy true false true false false _ rfl rfl ⟨λh=>(by cases h),λh=>absurd h fu⟩ (λh=>absurd h fu)
  ·rename_i h1;have fu:¬er n m:=λh=>h1 (h.dD oM);exact dy true false true false false _ rfl rfl ⟨λh=>(by cases h),λh=>absurd h fu⟩ (λh=>absurd h fu)
 ·rename_i hk
  (refine (mY m.cert hf.cert n).mono ?_;rintro _ _ ⟨rfl,rfl⟩;(conv=>whnf))
  refine dy false false false true false _ rfl rfl ?_ (λ_=>⟨by simp [hk],by simp [hk],by simp [hk],by simp [hk],by simp [hk]⟩);simp only [jh];exact ⟨λh=>⟨oM,oM,oM,oM,λ_=>h,oM⟩,λh=>h.cert hk⟩
 ·rename_i hk h1 h2;replace h1:((nums m.aT).length:Int)≥1:=h1;replace h2:((nums m.aT).length:Int)<=16:=h2
  (refine (gY m.aT hf.aT).mono ?_;rintro _ _ ⟨rfl,rfl⟩;(conv=>whnf))
  refine dy false false false false true _ rfl rfl ?_ (λ_=>⟨by simp [hk],by simp [hk],by simp [hk],by simp [hk],by simp [hk]⟩);simp only [jh];exact ⟨λh=>⟨oM,oM,oM,oM,oM,λ_=>⟨oM,h⟩⟩,λh=>(h.aT oM).2⟩
 ·rename_i hk h1 h2;replace h2:¬((nums m.aT).length:Int)<=16:=h2;have fu:¬er n m:=λh=>by have:=(h.aT oM).1;omega
  exact dy false false false false true _ rfl rfl ⟨λh=>(by cases h),λh=>absurd h fu⟩ (λh=>absurd h fu)
 ·rename_i hk h1;replace h1:¬((nums m.aT).length:Int)≥1:=h1;have fu:¬er n m:=λh=>by have:=(h.aT oM).1;omega
  exact dy false false false false true _ rfl rfl ⟨λh=>(by cases h),λh=>absurd h fu⟩ (λh=>absurd h fu)
 ·rename_i hk h1 h2;replace h1:((nums m.aT).length:Int)≥1:=h1;replace h2:((nums m.aT).length:Int)<=16:=h2
  (refine (gY m.aT hf.aT).mono ?_;rintro _ _ ⟨rfl,rfl⟩;(conv=>whnf))
  refine dy false false false false true _ rfl rfl ?_ (λ_=>⟨by simp [hk],by simp [hk],by simp [hk],by simp [hk],by simp [hk]⟩);simp only [jh];exact ⟨λh=>⟨oM,oM,oM,oM,oM,λ_=>⟨oM,h⟩⟩,λh=>(h.aT oM).2⟩
 ·rename_i hk h1 h2;replace h2:¬((nums m.aT).length:Int)<=16:=h2;have fu:¬er n m:=λh=>by have:=(h.aT oM).1;omega
  exact dy false false false false true _ rfl rfl ⟨λh=>(by cases h),λh=>absurd h fu⟩ (λh=>absurd h fu)
 ·rename_i hk h1;replace h1:¬((nums m.aT).length:Int)≥1:=h1;have fu:¬er n m:=λh=>by have:=(h.aT oM).1;omega
  exact dy false false false false true _ rfl rfl ⟨λh=>(by cases h),λh=>absurd h fu⟩ (λh=>absurd h fu)
 ·have fu:¬er n m:=λh=>by have:=h.kind;omega
  exact dy false false false false false _ rfl rfl ⟨λh=>(by cases h),λh=>absurd h fu⟩ (λh=>absurd h fu)
open Classical in
theorem iN (a:Cert):zA 165 [a.pD,.agg (agb false a)] [] (pQ (.d (.bool (decide (a.af=0/\a.round=0/\a.aE.length=0/\a.ao.length=0)))) []):=by
 have l2:=nums_length a.aE;have l3:=nums_length a.ao;refine gG func165 ntmps165 ?_;repeat' (apply tw<;>intro _)
 ·rename_i h1 h2 h3;replace h3:((nums a.aE).length:Int)=0:=h3;refine ⟨bu ?_,rfl⟩;simp only [xd,jh];exact ⟨λh=>by have h:((nums a.ao).length:Int)=0:=h;exact ⟨h1,h2,oM,oM⟩,λh=>by show ((nums a.ao).length:Int)=0;omega⟩
 ·rename_i h1 h2 h3;replace h3:¬((nums a.aE).length:Int)=0:=h3;exact ⟨by rw [aP (λh=>oM)];rfl,rfl⟩
 ·rename_i h1 h2;exact ⟨by rw [aP (λh=>h2 h.2.1)];rfl,rfl⟩
 ·rename_i h1;exact ⟨by rw [aP (λh=>h1 h.1)];rfl,rfl⟩
theorem QI {n:Int} {m:aW} {g b h c d:Bool} (hn:jA n=true) (h1:1<=m.src/\m.src<=n) (h2:1<=m.dst/\m.dst<=n) (h3:m.src≠m.dst) (bw:er n m)
  (hk:g=decide (m.kind<=5)/\b=decide (m.kind=1∨m.kind=3)/\h=decide (m.kind=4)/\c=decide (m.kind=6)/\d=decide (7<=m.kind)) :
  aX n m↔(g=true∨m.ae=0)/\(b=true∨m.ba=0/\m.bn=0/\m.dX.length=0)/\(h=true∨m.head.af=0/\m.head.round=0/\m.head.aE.length=0/\m.head.ao.length=0)/\(c=true∨(m.cert.af=0/\m.cert.round=0/\m.cert.aE.length=0/\m.cert.ao.length=0)/\m.cert.ae=0/\m.cert.sigs.length=0)/\(d=true∨m.aT.length=0):=by
 obtain ⟨rfl,rfl,rfl,rfl,rfl⟩:=hk;simp only [jh];constructor
 ·intro hh;have o:=hh.only;refine ⟨?_,?_,?_,?_,?_⟩
  ·rcases Int.lt_or_le m.kind 6 with h|h
   ·left;omega
   ·right;exact o.dD h
  ·by_cases h:m.kind=1∨m.kind=3
   ·left;exact h
   ·right;obtain ⟨a1,a2,a3⟩:=o.Vg ⟨λe=>h (.inl e),λe=>h (.inr e)⟩;exact ⟨a1,a2,by rw [a3];rfl⟩
  ·by_cases h:m.kind=4
   ·left;exact h
   ·right;obtain ⟨a1,a2,a3,a4⟩:=o.head h;exact ⟨a1,a2,by rw [a3];rfl,by rw [a4];rfl⟩
  ·by_cases h:m.kind=6
   ·left;exact h
   ·right;obtain ⟨a1,a2,a3,a4,a5,a6⟩:=o.cert h;exact ⟨⟨a1,a2,by rw [a3];rfl,by rw [a4];rfl⟩,a5,by rw [a6];rfl⟩
  ·rcases Int.lt_or_le m.kind 7 with h|h
   ·right;rw [o.aT oM];rfl
   ·left;exact h
 ·rintro ⟨a1,a2,a3,a4,a5⟩;refine ⟨hn,h1,h2,h3,bw,⟨λh=>?_,λh=>?_,λh=>?_,λh=>?_,λh=>?_⟩⟩
  ·rcases a1 with a1|a1
   ·omega
   ·exact a1
  ·rcases a2 with a2|a2
   ·omega
   ·exact ⟨a2.1,a2.2.1,oy a2.2.2⟩
  ·rcases a3 with a3|a3
   ·omega
   ·exact ⟨a3.1,a3.2.1,oy a3.2.2.1,oy a3.2.2.2⟩
  ·rcases a4 with a4|a4
   ·omega
   ·exact ⟨a4.1.1,a4.1.2.1,oy a4.1.2.2.1,oy a4.1.2.2.2,a4.2.1,oy a4.2.2⟩
  ·rcases a5 with a5|a5
   ·omega
   ·exact oy a5
open Classical in
theorem nR (m:aW) (hf:m.cY) (n:Int):zA 114 [m.av,.k n] [] (pQ (.d (.bool (decide (aX n m)))) []):=by
 have hi:=Ee n;have ho:=YN m hf n;have l1:=iM m.dX;have l2:=nums_length m.head.aE;have l3:=nums_length m.head.ao;have l4:=nums_length m.cert.aE;have l5:=nums_length m.cert.ao;have l6:=nums_length m.cert.sigs;have l7:=nums_length m.aT;refine gG func114 ntmps114 ?_;refine hi.mono ?_;rintro _ _ ⟨rfl,rfl⟩
 cases hn:jA n with
 | false =>
   refine rdv ?_;exact ⟨by rw [aP (λh:aX n m=>by have:=h.fl;rw [hn] at this;cases this)];rfl,rfl⟩
 | true =>
   refine rdv ?_;repeat' (apply tw<;>intro _)
   all_goals first
    | exact ⟨by rw [aP (λh:aX n m=>by have:=h.src;have:=h.dst;have:=h.ne;omega)];rfl,rfl⟩
    | skip
   refine ho.mono ?_;rintro _ _ ⟨⟨g,b,h,c,d,rfl,qx,hk⟩,rfl⟩;by_cases bw:er n m
   ·have key:=QI hn (oM:1<=m.src/\m.src<=n) (oM:1<=m.dst/\m.dst<=n) ‹m.src≠m.dst› bw (hk bw);clear hk;rw [cz bw];rcases qx with ⟨rfl,rfl,rfl,rfl,rfl⟩|⟨rfl,rfl,rfl,rfl,rfl⟩|⟨rfl,rfl,rfl,rfl,rfl⟩|⟨rfl,rfl,rfl,rfl,rfl⟩|⟨rfl,rfl,rfl,rfl,rfl⟩|⟨rfl,rfl,rfl,rfl,rfl⟩
    ·simp only [Sa,false_or,true_or,true_and,and_true] at key
     conv=>whnf
     repeat' (first|(refine jz ?_;repeat' (apply tw<;>intro _))|(refine ay.mono (iN m.head) ?_;rintro _ _ ⟨rfl,rfl⟩;(conv=>whnf))|(refine ay.mono (iN m.cert) ?_;rintro _ _ ⟨rfl,rfl⟩;(conv=>whnf)))
     all_goals first
      | (rename_i e;exact absurd rfl e)
      | (rename_i e;replace e:m.ae≠0:=e;exact ⟨by rw [aP (λhh=>by have:=key.1 hh;omega)];rfl,rfl⟩)
      | exact ⟨by rw [aP (λhh=>by have:=key.1 hh;omega)];rfl,rfl⟩
      | (refine ⟨bu ?_,rfl⟩;rw [jh,key];simp only [xd];constructor<;>intro hh<;>omega)
      | (have hz:m.ae=0:=‹m.ae=if false=true then m.ae else 0›;refine ⟨bu ?_,rfl⟩;rw [jh,key];simp only [xd];constructor<;>intro hh<;>omega)
      | (have hz:m.ae=0:=‹m.ae=if false=true then m.ae else 0›;refine ⟨bu ?_,rfl⟩;rw [jh,key,xd];exact ⟨λ_=>oM,λ_=>rfl⟩)
      | skip
    ·simp only [Sa,false_or,true_or,true_and,and_true] at key
     conv=>whnf
     repeat' (first|(refine jz ?_;repeat' (apply tw<;>intro _))|(refine ay.mono (iN m.head) ?_;rintro _ _ ⟨rfl,rfl⟩;(conv=>whnf))|(refine ay.mono (iN m.cert) ?_;rintro _ _ ⟨rfl,rfl⟩;(conv=>whnf)))
     all_goals first
      | (rename_i e;exact absurd rfl e)
      | (rename_i e;replace e:m.ae≠0:=e;exact ⟨by rw [aP (λhh=>by have:=key.1 hh;omega)];rfl,rfl⟩)
      | exact ⟨by rw [aP (λhh=>by have:=key.1 hh;omega)];rfl,rfl⟩
      | (refine ⟨bu ?_,rfl⟩;rw [jh,key];simp only [xd];constructor<;>intro hh<;>omega)
      | (have hz:m.ae=0:=‹m.ae=if false=true then m.ae else 0›;refine ⟨bu ?_,rfl⟩;rw [jh,key];simp only [xd];constructor<;>intro hh<;>omega)
      | (have hz:m.ae=0:=‹m.ae=if false=true then m.ae else 0›;refine ⟨bu ?_,rfl⟩;rw [jh,key,xd];exact ⟨λ_=>oM,λ_=>rfl⟩)
      | skip
    ·simp only [Sa,false_or,true_or,true_and,and_true] at key
     conv=>whnf
     repeat' (first|(refine jz ?_;repeat' (apply tw<;>intro _))|(refine ay.mono (y9 m.head) ?_;rintro _ _ ⟨rfl,rfl⟩;(conv=>whnf))|(refine ay.mono (iN m.cert) ?_;rintro _ _ ⟨rfl,rfl⟩;(conv=>whnf)))
     all_goals first
      | (rename_i e;exact absurd rfl e)
      | (rename_i e;replace e:m.ae≠0:=e;exact ⟨by rw [aP (λhh=>by have:=key.1 hh;omega)];rfl,rfl⟩)
      | exact ⟨by rw [aP (λhh=>by have:=key.1 hh;omega)];rfl,rfl⟩
      | (refine ⟨bu ?_,rfl⟩;rw [jh,key];simp only [xd];constructor<;>intro hh<;>omega)
      | (have hz:m.ae=0:=‹m.ae=if false=true then m.ae else 0›;refine ⟨bu ?_,rfl⟩;rw [jh,key];simp only [xd];constructor<;>intro hh<;>omega)
      | (have hz:m.ae=0:=‹m.ae=if false=true then m.ae else 0›;refine ⟨bu ?_,rfl⟩;rw [jh,key,xd];exact ⟨λ_=>oM,λ_=>rfl⟩)
      | skip
    ·simp only [Sa,false_or,true_or,true_and,and_true] at key
     conv=>whnf
     repeat' (first|(refine jz ?_;repeat' (apply tw<;>intro _))|(refine ay.mono (iN m.head) ?_;rintro _ _ ⟨rfl,rfl⟩;(conv=>whnf))|(refine ay.mono (y9 m.cert) ?_;rintro _ _ ⟨rfl,rfl⟩;(conv=>whnf)))
     all_goals first
      | (rename_i e;exact absurd rfl e)
      | (rename_i e;replace e:m.ae≠0:=e;exact ⟨by rw [aP (λhh=>by have:=key.1 hh;omega)];rfl,rfl⟩)
      | exact ⟨by rw [aP (λhh=>by have:=key.1 hh;omega)];rfl,rfl⟩
      | (refine ⟨bu ?_,rfl⟩;rw [jh,key];simp only [xd];constructor<;>intro hh<;>omega)
      | (have hz:m.ae=0:=‹m.ae=if false=true then m.ae else 0›;refine ⟨bu ?_,rfl⟩;rw [jh,key];simp only [xd];constructor<;>intro hh<;>omega)
      | (have hz:m.ae=0:=‹m.ae=if false=true then m.ae else 0›;refine ⟨bu ?_,rfl⟩;rw [jh,key,xd];exact ⟨λ_=>oM,λ_=>rfl⟩)
      | skip
    ·simp only [Sa,false_or,true_or,true_and,and_true] at key
     conv=>whnf
     repeat' (first|(refine jz ?_;repeat' (apply tw<;>intro _))|(refine ay.mono (iN m.head) ?_;rintro _ _ ⟨rfl,rfl⟩;(conv=>whnf))|(refine ay.mono (iN m.cert) ?_;rintro _ _ ⟨rfl,rfl⟩;(conv=>whnf)))
     all_goals first
      | (rename_i e;exact absurd rfl e)
      | (rename_i e;replace e:m.ae≠0:=e;exact ⟨by rw [aP (λhh=>by have:=key.1 hh;omega)];rfl,rfl⟩)
      | exact ⟨by rw [aP (λhh=>by have:=key.1 hh;omega)];rfl,rfl⟩
      | (refine ⟨bu ?_,rfl⟩;rw [jh,key];simp only [xd];constructor<;>intro hh<;>omega)
      | (have hz:m.ae=0:=‹m.ae=if false=true then m.ae else 0›;refine ⟨bu ?_,rfl⟩;rw [jh,key];simp only [xd];constructor<;>intro hh<;>omega)
      | (have hz:m.ae=0:=‹m.ae=if false=true then m.ae else 0›;refine ⟨bu ?_,rfl⟩;rw [jh,key,xd];exact ⟨λ_=>oM,λ_=>rfl⟩)
      | skip
    ·simp only [Sa,false_or,true_or,true_and,and_true] at key
     conv=>whnf
     repeat' (first|(refine jz ?_;repeat' (apply tw<;>intro _))|(refine ay.mono (iN m.head) ?_;rintro _ _ ⟨rfl,rfl⟩;(conv=>whnf))|(refine ay.mono (iN m.cert) ?_;rintro _ _ ⟨rfl,rfl⟩;(conv=>whnf)))
     all_goals first
      | (rename_i e;exact absurd rfl e)
      | (rename_i e;replace e:m.ae≠0:=e;exact ⟨by rw [aP (λhh=>by have:=key.1 hh;omega)];rfl,rfl⟩)
      | exact ⟨by rw [aP (λhh=>by have:=key.1 hh;omega)];rfl,rfl⟩
      | (refine ⟨bu ?_,rfl⟩;rw [jh,key];simp only [xd];constructor<;>intro hh<;>omega)
      | (have hz:m.ae=0:=‹m.ae=if false=true then m.ae else 0›;refine ⟨bu ?_,rfl⟩;rw [jh,key];simp only [xd];constructor<;>intro hh<;>omega)
      | (have hz:m.ae=0:=‹m.ae=if false=true then m.ae else 0›;refine ⟨bu ?_,rfl⟩;rw [jh,key,xd];exact ⟨λ_=>oM,λ_=>rfl⟩)
      | skip
   ·rw [aP bw];rcases qx with ⟨rfl,rfl,rfl,rfl,rfl⟩|⟨rfl,rfl,rfl,rfl,rfl⟩|⟨rfl,rfl,rfl,rfl,rfl⟩|⟨rfl,rfl,rfl,rfl,rfl⟩|⟨rfl,rfl,rfl,rfl,rfl⟩|⟨rfl,rfl,rfl,rfl,rfl⟩
    all_goals
     refine rdv ?_;exact ⟨by rw [aP (λh:aX n m=>bw h.ok)];rfl,rfl⟩
end Go.Proofs.YtolkmjfkkkiboaaGreat
namespace Go.Proofs.YtolkmjfkkkiboaaGreat
open Go Go.Ab Go.RowKit Go.Lib Go.Proofs Go.Shelf Tryz
theorem Gz (b n c i vb vc:Nat) (cs vs:List Value) {cur fH:Array Value} (w:World) (hi:i<n) (eh:n+1<=c) (UF:c<=9223372036854775807) (UG:vb≠b)
  (gE:w.heap[b]? = some (.cells cur 3 (0,0))) (da:cur.size=c * 1) (yM:w.heap[vb]? = some (.cells fH 3 (0,0))) (CX:fH.toList.take 1=vs) (tY:vs.length=1)
  (ck:cur.toList.take (n * 1)=cs) (yW:∀ v∈cs,v.oneCell'=true) (Eh:∀ v∈vs,v.oneCell'=true) :
  Calls prog 205 #[.slice (some ⟨b,0,none⟩) n c,.j i,.slice (some ⟨vb,0,none⟩) 1 vc] w λe w' =>
   e = .returned (.slice (some ⟨b,0,none⟩) (n+1) c)/\∃ (cur':Array Value) (w1:World),aO w w1/\w'=w1.setRow b cur'/\cur'.size=cur.size/\cur'.toList.take ((n+1) * 1)=cs.take (i * 1)++vs++cs.drop (i * 1):=by
 have t0:=Tryz.underlying0;have a0:=Tryz.isAgg0;have z0:=Tryz.sizeOf0;have v0:=Tryz.zeroValue0;have t3:=Tryz.underlying3;have a3:=Tryz.isAgg3;have z3:=Tryz.sizeOf3;have v3:=Tryz.zeroValue3;have t4:=Tryz.underlying4;have a4:=Tryz.isAgg4;have z4:=Tryz.sizeOf4;have v4:=Tryz.zeroValue4;have t22:=Tryz.underlying22;have a22:=Tryz.isAgg22;have z22:=Tryz.sizeOf22;have v22:=Tryz.zeroValue22;have t68:=Tryz.underlying3;have a68:=Tryz.isAgg3;have BK:=Tryz.sizeOf3;have v68:=Tryz.zeroValue3;have u0:=run_underlying t0;have u3:=run_underlying t3;have u4:=run_underlying t4;have u22:=run_underlying t22;have u68:=run_underlying t68;have mixed:=cB;have oA:¬((i:Int)=(n:Int)):=oM;have fD:i<=n:=oM;have Ag:IntKind.i64.wrap ((i:Int)+1)=(i:Int)+1:=by rw [IntKind.wrap_i64];omega
 have hwn:IntKind.i64.wrap ((n:Int)+1)=(n:Int)+1:=by rw [IntKind.wrap_i64];omega
 have eS:(0:Int)<=(i:Int)+1:=oM;have yH:((i:Int)+1).toNat=i+1:=oM;have kx:((n:Int)+1).toNat=n+1:=oM;have iR:¬(c=i+1):=oM;have HH:(i:Int)<=(n:Int)+1:=oM;have hb4:¬(c=i):=oM;have hb5:¬((n:Int)+1>(c:Int)):=oM;have UH:w.shape? vb=some (3,fH.size):=by simp [World.shape?,yM]
 have UI:w.shape? b=some (3,cur.size):=by simp [World.shape?,gE]
 have BE:∀ o,w.frozen? ⟨vb,o,none⟩=false:=λo=>by simp [World.frozen?,yM]
 have Jc:cur.size≠0:=oM;have tG:∀ lb cb,(callFunc 238 #[.slice (some ⟨vb,0,none⟩) 1 vc,.slice (some ⟨b,(i+1) * 1,none⟩) lb cb]).run prog w = .ok (.value (.bool false)) w:=λlb cb=>by
  rw [run_callFunc_extern func238 kR kR kR (e:=Extern.SlicesOverlaps.overlaps #[22,22] #[4]) kR,
   Lib.run_overlaps_apart w 22 4 3 t22 1 BK ⟨vb,0,none⟩ ⟨b,(i+1) * 1,none⟩ 1 vc lb cb UG 3 3 fH.size cur.size UH UI Jc (BE _) (BE _)]
  rfl
 have bR:cs.length=n * 1:=by rw [<-ck,mw,lU,da];exact vd (lT _ oM)
 have pM:(cs.drop (i * 1)).length=(n - i) * 1:=by rw [tf,bR,WY]
 obtain ⟨gF,lp⟩:∃ gF:Array Value,(cur.toList.take ((i+1) * 1)++cs.drop (i * 1)++cur.toList.drop ((i+1) * 1+(cs.drop (i * 1)).length)).toArray=gF:=⟨_,rfl⟩;have eL:=Bp cur.toList vs (i * 1) (n * 1) 1 (lT _ fD) (by rw [lU,da];omega) tY gF.toList (by rw [<-lp,ck,qu,Nu]);obtain ⟨fx,ri⟩:∃ fx:Array Value,(gF.toList.take (i * 1)++vs++gF.toList.drop (i * 1+vs.length)).toArray=fx:=⟨_,rfl⟩;have sy:gF.size=cur.size:=by have:=eL.2.2;simpa using this
 have wj:∀ ty dc sc,(Builtin.copy_ #[22,22] ty #[.slice (some ⟨b,(i+1) * 1,none⟩) (n - i) dc,.slice (some ⟨b,i * 1,none⟩) (n+1 - i) sc]).run prog w.drew = .ok (goInt (n - i:Nat)) (w.drew.setRow b gF):=λty dc sc=>by
  have:=cd (P:=prog) w.drew 22 22 ty 3 1 b ((i+1) * 1) (n - i) dc ⟨b,i * 1,none⟩ (n+1 - i) sc (n - i) (cs.drop (i * 1)) (cur:=cur) t22 BK (Nat.min_eq_right oM) pM
   (λj v hj=>by
     rw [add_lit _ rfl,show w.drew.cell? ⟨b,i * 1+j,none⟩=w.cell? ⟨b,i * 1+j,none⟩ from rfl,cell_of_row w b _ cur _ _ gE];rw [Dt,<-ck,nX] at hj;split at hj
     ·simpa using hj
     ·cases hj) gE (by rw [pM,da];omega) (λv hv=>yW v (G5 hv))
  rw [lp] at this;exact this
 have C_:∀ (W:World),(∀ x:Nat,W.heap[x]? = (w.drew.setRow b gF).heap[x]?)->∀ ty dc,(Builtin.copy_ #[22,22] ty #[.slice (some ⟨b,i * 1,none⟩) (n+1 - i) dc,.slice (some ⟨vb,0,none⟩) 1 vc]).run prog W = .ok (goInt (1:Nat)) (W.setRow b fx):=λW hW ty dc=>by
  have:=cd (P:=prog) W 22 22 ty 3 1 b (i * 1) (n+1 - i) dc ⟨vb,0,none⟩ 1 vc 1 vs (cur:=gF) (e:=3) t22 BK (vd oM) (by rw [tY])
   (λj v hj=>by
     rw [add_lit _ rfl,gP];have h1:W.cell? ⟨vb,j,none⟩=(w.drew.setRow b gF).cell? ⟨vb,j,none⟩:=by simp only [World.cell?,hW]
     rw [h1,cell_setRow_other _ _ _ _ UG,show w.drew.cell? ⟨vb,j,none⟩=w.cell? ⟨vb,j,none⟩ from rfl,cell_of_row w vb _ fH _ _ yM];rw [<-CX,nX] at hj;split at hj
     ·simpa using hj
     ·cases hj) (by rw [hW];exact setRow_heap _ _ _ _ _ _ gE) (by rw [tY,sy,da];omega) Eh
  rw [ri] at this;exact this
 clear lp pM bR;simp only [xh] at tG wj C_
 go_enter func205,ntmps205
 go_wp2_with (simp only [tG])
 go_region_law_o (refine step_copy_runI rfl _ _ 22 22 rfl (.slice (some ⟨b,i+1,none⟩) (n - i) (c - (i+1))) (.slice (some ⟨b,i,none⟩) (n+1 - i) (c - i)) (by simp [Act.eval,Act.put]) (by simp [Act.eval,Act.put]) (wj _ _ _) ?_)
 go_wp2_with (at_builtin;refine wpList_copy_runI _ rfl _ _ 22 22 rfl _ _ rfl rfl (C_ _ (λ_=>rfl) _ _) ?_)
 go_ret
 refine ⟨rfl,fx,w.drew,aO.drew w,setRow_setRow _ _ _ _,?_,?_⟩
 ·have:=eL.2.1;rw [<-ri];simpa using this
 ·rw [qu,Nu,<-ri];have:=eL.1;rw [ck] at this;exact this
theorem JQ (b n c i vb vc:Nat) (cs vs:List Value) {cur fH:Array Value} (w:World) (hi:i<n) (hnc:n<=c) (eh:c<n+1) (xu:(n+1) * 8192<=140737488355328) (UG:vb≠b)
  (gE:w.heap[b]? = some (.cells cur 3 (0,0))) (da:cur.size=c * 1) (yM:w.heap[vb]? = some (.cells fH 3 (0,0))) (CX:fH.toList.take 1=vs) (tY:vs.length=1)
  (ck:cur.toList.take (n * 1)=cs) (yW:∀ v∈cs,v.oneCell'=true) (Eh:∀ v∈vs,v.oneCell'=true) :
  Calls prog 205 #[.slice (some ⟨b,0,none⟩) n c,.j i,.slice (some ⟨vb,0,none⟩) 1 vc] w λe w' =>
   ∃ (cur':Array Value) (G:Nat),e = .returned (.slice (some ⟨w.heap.size,0,none⟩) (n+1) G)/\aO w w'/\w'.heap[w.heap.size]? = some (.cells cur' 3 (0,0))/\cur'.size=G * 1/\n+1<=G/\G<=maxLen/\cur'.toList.take ((n+1) * 1)=cs.take (i * 1)++vs++cs.drop (i * 1):=by
 have t0:=Tryz.underlying0;have a0:=Tryz.isAgg0;have z0:=Tryz.sizeOf0;have v0:=Tryz.zeroValue0;have t3:=Tryz.underlying3;have a3:=Tryz.isAgg3;have z3:=Tryz.sizeOf3;have v3:=Tryz.zeroValue3;have t4:=Tryz.underlying4;have a4:=Tryz.isAgg4;have z4:=Tryz.sizeOf4;have v4:=Tryz.zeroValue4;have t22:=Tryz.underlying22;have a22:=Tryz.isAgg22;have z22:=Tryz.sizeOf22;have v22:=Tryz.zeroValue22;have t68:=Tryz.underlying3;have a68:=Tryz.isAgg3;have BK:=Tryz.sizeOf3;have v68:=Tryz.zeroValue3;have u0:=run_underlying t0;have u3:=run_underlying t3;have u4:=run_underlying t4;have u22:=run_underlying t22;have u68:=run_underlying t68;have mixed:=cB;obtain ⟨ti,Jd⟩:∃ ti,tt 3=some ti:=⟨_,rfl⟩;have htb:ti.bytes<=8192:=by cases Jd;decide
 have IV:ti.size=1:=by cases Jd;rfl
 obtain ⟨_,info,k1,k2,k3,k4⟩:=aF 3 ti Jd;have CG:=bf 3 ti Jd;rw [IV] at CG k3;clear Jd;have bR:cs.length=n * 1:=by rw [<-ck,mw,lU,da];exact vd (lT _ oM)
 have pM:(cs.drop (i * 1)).length=(n - i) * 1:=by rw [tf,bR,WY]
 have hbw:b<w.heap.size:=(ud.1 gE).1;have hvw:vb<w.heap.size:=(ud.1 yM).1;have hold:(Builtin.firstCells info.size i (.slice (some ⟨b,0,none⟩) i c)).run prog w.drew = .ok (cs.take (i * 1)).toArray w.drew :=
  run_firstCells_some w.drew info.size i ⟨b,0,none⟩ i c (cs.take (i * 1)) (by rw [mw,bR,k3];exact vd (lT _ oM)) (λj v hj=>by
   rw [add_lit _ rfl,gP,show w.drew.cell? ⟨b,j,none⟩=w.cell? ⟨b,j,none⟩ from rfl,cell_of_row w b _ cur _ _ gE];rw [<-ck,nX] at hj;split at hj
   ·rw [nX] at hj;split at hj
    ·simpa using hj
    ·cases hj
   ·cases hj)
 have AE:(n+1) * info.bytes<=140737488355328:=fS (Nat.mul_le_mul_left _ (by rw [k4];exact htb)) xu;have WL:(n:Int)+1 - (i:Int)=((n+1 - i:Nat):Int):=oM;have UJ:i+(n+1 - i)=n+1:=oM;obtain ⟨G,hG⟩:∃ G,G=grownCap w (n+1) c 3:=⟨_,rfl⟩;obtain ⟨jo,wk⟩:∃ jo:Array Value,jo=(cs.take (i * 1)).toArray++Builtin.zeroCells ti.zero.cells (n+1 - i)++Builtin.zeroCells ti.zero.cells (G - (n+1)):=⟨_,rfl⟩;have hrz:∀ ty,(Builtin.append_ #[22,3] ty #[.slice (some ⟨b,0,none⟩) i c,.j ((n:Int)+1 - (i:Int))]).run prog w =
   .ok (.slice (some ⟨w.heap.size,0,none⟩) (n+1) G) (w.drew.alloc (.cells jo 3)):=λty=>by
  have h:=Lib.run_append_grow_zeros w 22 3 ty 3 info _ .i64 .i64 t22 t3 k1 k2 (some ⟨b,0,none⟩) i c (cs.take (i * 1)) hold (n+1 - i) oM oM oM oM (fS (lT _ oM) (fS AE dC)) (by rw [UJ];exact growslice_fits eh AE);rw [UJ,<-hG,<-wk] at h;rw [WL];exact h
 have hGn:n+1<=G:=by rw [hG];exact grownCap_ge w _ _ _
 have hGm:G<=maxLen:=by
  rw [hG];exact grownCap_le_maxLen w (n+1) c 3 (by unfold maxLen;omega)
 have afN:G<=9223372036854775807:=by unfold maxLen at hGm;omega
 have Je:jo.size=G * 1:=by
  rw [wk];simp only [WT,size_zeroCells,CM,mw,bR,CG];rw [vd (lT _ (by omega:i<=n)),<-qu,<-qu];congr 1;omega
 have hRt:jo.toList.take (i * 1)=cs.take (i * 1):=by
  rw [wk,Pu,Pu,uf,KW (by simp [bR];omega),gx (by simp;omega)]
 obtain ⟨R1,OO⟩:∃ R1:Array Value,(jo.toList.take (i * 1)++vs++jo.toList.drop (i * 1+vs.length)).toArray=R1:=⟨_,rfl⟩;obtain ⟨R2,OP⟩:∃ R2:Array Value,(R1.toList.take ((i+1) * 1)++cs.drop (i * 1)++R1.toList.drop ((i+1) * 1+(cs.drop (i * 1)).length)).toArray=R2:=⟨_,rfl⟩;have eL:=xU jo.toList vs (cs.drop (i * 1)) _ (i * 1) (n * 1) 1 (lT _ oM) (by rw [lU,Je];omega) tY (by rw [pM,WY]) hRt;have sy:R1.size=G * 1:=by rw [<-Je,<-OO];simpa using eL.2.2
 have e1:R1.toList=jo.toList.take (i * 1)++vs++jo.toList.drop (i * 1+vs.length):=by rw [<-OO]
 rw [<-e1,show i * 1+1=(i+1) * 1 by omega] at eL;have kj:R2.size=G * 1:=by rw [<-Je,<-OP];simpa using eL.2.1
 have hr2:R2.toList.take ((n+1) * 1)=cs.take (i * 1)++vs++cs.drop (i * 1):=by
  rw [<-OP,show (n+1) * 1=n * 1+1 by omega];exact eL.1
 have gd:(w.drew.alloc (.cells jo 3)).heap[w.heap.size]? = some (.cells jo 3 (0,0)):=heap_alloc_new w.drew _;have afO:vb≠w.heap.size:=oM;have hbN:b≠w.heap.size:=oM;have UK:∀ (W:World),(∀ x:Nat,W.heap[x]? = (w.drew.alloc (.cells jo 3)).heap[x]?)->∀ ty dc,(Builtin.copy_ #[22,22] ty #[.slice (some ⟨w.heap.size,i * 1,none⟩) (n+1 - i) dc,.slice (some ⟨vb,0,none⟩) 1 vc]).run prog W = .ok (goInt (1:Nat)) (W.setRow w.heap.size R1):=λW hW ty dc=>by
  have:=cd (P:=prog) W 22 22 ty 3 1 w.heap.size (i * 1) (n+1 - i) dc ⟨vb,0,none⟩ 1 vc 1 vs (cur:=jo) (e:=3) t22 BK (vd oM) (by rw [tY])
   (λj v hj=>by
     rw [add_lit _ rfl,gP];have h1:W.cell? ⟨vb,j,none⟩=(w.drew.alloc (.cells jo 3)).cell? ⟨vb,j,none⟩:=by simp only [World.cell?,hW]
     rw [h1];refine (aO.alloc w.drew _).cell ?_;rw [show w.drew.cell? ⟨vb,j,none⟩=w.cell? ⟨vb,j,none⟩ from rfl,cell_of_row w vb _ fH _ _ yM];rw [<-CX,nX] at hj;split at hj
     ·simpa using hj
     ·cases hj) (by rw [hW];exact gd) (by rw [tY,Je];omega) Eh
  rw [OO] at this;exact this
 have UL:∀ (W:World),(∀ x:Nat,W.heap[x]? = ((w.drew.alloc (.cells jo 3)).setRow w.heap.size R1).heap[x]?)->∀ ty dc sc,(Builtin.copy_ #[22,22] ty #[.slice (some ⟨w.heap.size,(i+1) * 1,none⟩) (n - i) dc,.slice (some ⟨b,i * 1,none⟩) (n - i) sc]).run prog W = .ok (goInt (n - i:Nat)) (W.setRow w.heap.size R2):=λW hW ty dc sc=>by
  have:=cd (P:=prog) W 22 22 ty 3 1 w.heap.size ((i+1) * 1) (n - i) dc ⟨b,i * 1,none⟩ (n - i) sc (n - i) (cs.drop (i * 1)) (cur:=R1) (e:=3) t22 BK (zfJ _) pM
   (λj v hj=>by
     rw [add_lit _ rfl];have h1:W.cell? ⟨b,i * 1+j,none⟩=((w.drew.alloc (.cells jo 3)).setRow w.heap.size R1).cell? ⟨b,i * 1+j,none⟩:=by simp only [World.cell?,hW]
     rw [h1,cell_setRow_other _ _ _ _ hbN];refine (aO.alloc w.drew _).cell ?_;rw [show w.drew.cell? ⟨b,i * 1+j,none⟩=w.cell? ⟨b,i * 1+j,none⟩ from rfl,cell_of_row w b _ cur _ _ gE];rw [Dt,<-ck,nX] at hj;split at hj
     ·simpa using hj
     ·cases hj) (by rw [hW];exact setRow_heap _ _ _ _ _ _ gd) (by rw [pM,sy];omega) (λv hv=>yW v (G5 hv))
  rw [OP] at this;exact this
 have Ag:IntKind.i64.wrap ((i:Int)+1)=(i:Int)+1:=by rw [IntKind.wrap_i64];omega
 have hwn:IntKind.i64.wrap ((n:Int)+1)=(n:Int)+1:=by rw [IntKind.wrap_i64];omega
 have hws:IntKind.i64.wrap ((n:Int)+1 - i)=(n:Int)+1 - i:=by rw [IntKind.wrap_i64];omega
 have eS:(0:Int)<=(i:Int)+1:=oM;have yH:((i:Int)+1).toNat=i+1:=oM;have oA:¬((i:Int)=(n:Int)):=oM;have fD:i<=n:=oM;have HH:(i:Int)<=(n:Int):=oM;have hb5:(c:Int)<(n:Int)+1:=oM;have hGi:¬(G=i):=oM;have afQ:¬(G=i+1):=oM;have hci:¬(c=i):=oM;clear WL UJ hold wk hG hRt Je OO OP eL sy e1;have Ei:∀ dc,(Builtin.copy_ #[22,22] 3 #[.slice (some ⟨w.heap.size,i * 1,none⟩) (n+1 - i) dc,.slice (some ⟨vb,0,none⟩) 1 vc]).run prog (w.alloc (.cells jo 3)).drew = .ok (goInt (1:Nat)) ((w.alloc (.cells jo 3)).drew.setRow w.heap.size R1):=λdc=>UK _ (λ_=>rfl) _ _;have Ej:=UL ((w.alloc (.cells jo 3)).drew.setRow w.heap.size R1).drew (λ_=>rfl) 3 (G - (i+1)) (c - i);simp only [xh] at Ei Ej
 go_enter func205,ntmps205
 go_wp2_with (first
  | (at_builtin;refine Lib.wpList_append_run _ rfl _ _ _ _ rfl _ _ rfl rfl _ _ (hrz _) ?_)
  | simp only [Ei])
 go_region_law_o (refine step_copy_runI rfl _ _ 22 22 rfl (.slice (some ⟨w.heap.size,i+1,none⟩) (n - i) (G - (i+1))) (.slice (some ⟨b,i,none⟩) (n - i) (c - i)) (by simp [Act.eval,Act.put]) (by simp [Act.eval,Act.put]) Ej ?_)
 go_wp2
 go_ret
 exact ⟨R2,G,rfl,(((aO.alloc w _).trans (aO.drew _)).xT _ (eQ _) _).trans (aO.drew _) |>.xT _ (eQ _) _,setRow_heap _ _ _ _ _ _ (setRow_heap _ _ _ _ _ _ gd),kj,hGn,hGm,hr2⟩
theorem GA (l:List (List DV)) (x:List DV) (i:Nat) (hi:i<l.length) (hl:l.length<=4294967296):zA 205 [.arr 0,.k i,.arr 1] [.row 3 1 l false,.row 3 1 [x] false] (pQ (.arr 2) [.dead,.row 3 1 [x] false,.row 3 1 (l.take i++x :: l.drop i) false]):=by
 intro c vs hc He hs hv;simp only [cD,VR,VD] at hv;obtain ⟨u0,r0,kQ,⟨cU,mN,lq⟩,u1,r1,rfl,zO,u2,r2,rfl,⟨fp,gq,o6⟩,rfl⟩:=hv;simp only [KF,ue,ke] at mN gq;subst mN;subst gq;subst zO;have j7:vs = #[u0,.j i,u2]:=by rw [<-uX (xs:=vs),kQ]
 rw [j7];have fR:=hs.fQ 0 _ rfl;have eS:=hs.fQ 1 _ rfl;obtain ⟨_,xw,eS⟩:=eS;obtain ⟨_,eM,fR⟩:=fR;have hx6:x.length=1:=xw x (by simp)
 cases xS:c.E0 1 with
 | none=>rw [xS] at eS;cases eS
 | some vb =>
 cases hE:c.E0 0 with
 | none =>
   rw [hE] at fR;have fR:l=[]:=fR;subst fR;simp at hi
 | some b =>
 rw [hE] at fR;rw [xS] at eS;simp only [bj,hE,xS] at lq o6;obtain ⟨cap,cur,rfl,hh,da⟩:=lq;obtain ⟨vc,fH,rfl,OQ,UM⟩:=o6;obtain ⟨ek,cur',nY,nx,gT,qN,CY⟩:=fR;rw [hh] at nY;cases nY
 obtain rfl:cap=ek:=oM;obtain ⟨vc',aap,Jf,aaq,Jg,_,wm⟩:=eS;rw [OQ] at Jf;cases Jf
 have ef:vb≠b:=by
  rintro rfl;have:=hs.inj 1 0 _ _ _ rfl rfl rfl rfl xS hE
  cases this
 simp only [CE,Du,gP,Nu,va,List.flatten_nil,gR] at wm Jg ⊢;have yW:=pH CY;have Eh:=pH wm;have tY:(fH.toList.take 1).length=1:=by rw [ed wm,hx6]
 have sB:(l.take i++x :: l.drop i).length=l.length+1:=by simp;omega
 have WI:∀ cs∈l.take i++x :: l.drop i,cs.length=1:=by
  intro cs ck;rcases gA.1 ck with h|h
  ·exact eM cs (Fc h)
  ·rcases jy.1 h with rfl|h
   ·exact hx6
   ·exact eM cs (G5 h)
 have gd:cR (aj c.M0 c.E0 [AB.row 3 1 l false,AB.row 3 1 [x] false] c.w0).rd (l.take i++x :: l.drop i).flatten ((cur.toList.take (l.length * 1)).take (i * 1)++fH.toList.take 1++(cur.toList.take (l.length * 1)).drop (i * 1)):=by
  rw [RG,va,eI l eM,kS l eM,<-uf];exact cf (cf (gJ _ CY) wm) (kP _ CY)
 by_cases eh:l.length+1<=cap
 ·refine (Gz b l.length cap i vb vc _ _ c.w0 hi eh (by unfold maxLen at qN;omega) ef hh da OQ rfl tY rfl yW Eh).mono ?_;rintro e w' ⟨rfl,fx,w1,kk,rfl,e_,PM⟩;have C8:=hs.lt (i:=0) rfl rfl hE;obtain ⟨Ga,UN⟩:=(hs.keeps hc kk).abT (i:=0) (zs:=l.take i++x :: l.drop i) rfl hE (cur':=fx) (by rw [kk.block b C8];exact hh) e_ (by rw [sB,da];exact lT _ eh) WI (by
   rw [sB,PM];exact cR.mono (iI hs.bl kk).rd gd)
  refine ⟨_,.arr 2,_,_,rfl,⟨rfl,rfl⟩,Ga,?_⟩;simp only [VR];refine ⟨_,rfl,?_⟩;simp only [bj,ca];exact ⟨cap,fx,by rw [sB],setRow_heap _ _ _ _ _ _ (by rw [kk.block b C8];exact hh),by rw [e_];exact da⟩
 ·refine (JQ b l.length cap i vb vc _ _ c.w0 hi gT oM oM ef hh da OQ rfl tY rfl yW Eh).mono ?_;rintro e w' ⟨fx,G,rfl,kk,DX,e_,hG1,hG2,PM⟩;obtain ⟨hk,pR⟩:=hs.kill (i:=0) rfl;obtain ⟨Ga,UN⟩:=hk.newRow hc kk (e:=3) (xs:=l.take i++x :: l.drop i) false (by exact ⟨dC,rfl⟩) WI DX e_ (by rw [sB];exact hG1) hG2 (by
   rw [sB,PM];exact cR.mono pR.rd gd)
  refine ⟨_,.arr 2,_,_,rfl,⟨rfl,rfl⟩,Ga,?_⟩;simp only [VR];refine ⟨_,rfl,?_⟩;simp only [bj,ca];exact ⟨G,fx,by rw [sB],DX,e_⟩
theorem Dj (l:List (List DV)) (eM:∀ cs∈l,cs.length=1) (x:List DV) (hx:x.length=1) (hl:l.length<=4294967296):zA 205 [.arr 0,.k l.length,.arr 1] [.row 3 1 l false,.row 3 1 [x] false] (pQ (.arr 2) [.dead,.row 3 1 [x] false,.row 3 1 (l++[x]) false]):=by
 intro c vs hc He hs hv;have hv0:=hv;simp only [cD,VR,VD] at hv;obtain ⟨u0,r0,kQ,⟨cU,mN,lq⟩,u1,r1,rfl,zO,u2,r2,rfl,⟨fp,gq,o6⟩,rfl⟩:=hv;have hq:pP tt 22 [AB.row 3 1 l false,AB.row 3 1 [x] false] (.arr 0) (.arr 1) (pQ (.arr 2) [.dead,.row 3 1 [x] false,.row 3 1 (l++[x]) false]):=by
  conv=>whnf
  refine ⟨by simp;omega,?_⟩
  conv=>whnf
  exact ⟨rfl,rfl⟩
 have uZ:VR (aj c.M0 c.E0 [AB.row 3 1 l false,AB.row 3 1 [x] false] c.w0) (.arr 0) u0:=⟨cU,mN,lq⟩;have oz:VR (aj c.M0 c.E0 [AB.row 3 1 l false,AB.row 3 1 [x] false] c.w0) (.arr 1) u2:=⟨fp,gq,o6⟩;have hr:=λty=>rP aF bf hc hs hq ty uZ oz;simp only [KF,ue,ke] at mN gq;subst mN;subst gq;subst zO;have j7:vs = #[u0,.j l.length,u2]:=by rw [<-uX (xs:=vs),kQ]
 rw [j7];have fR:=hs.fQ 0 _ rfl;have eS:=hs.fQ 1 _ rfl;obtain ⟨_,xw,eS⟩:=eS;obtain ⟨_,eM,fR⟩:=fR
 cases xS:c.E0 1 with
 | none=>rw [xS] at eS;cases eS
 | some vb =>
 simp only [bj,xS] at o6;obtain ⟨vc,fH,rfl,OQ,UM⟩:=o6;obtain ⟨r,w',E',av,L',gi,⟨rfl,rfl⟩,fj,hle,UO⟩:=hr 22;simp only [CE,Du,gP] at gi ⊢;have t0:=Tryz.underlying0;have a0:=Tryz.isAgg0;have z0:=Tryz.sizeOf0;have v0:=Tryz.zeroValue0;have t3:=Tryz.underlying3;have a3:=Tryz.isAgg3;have z3:=Tryz.sizeOf3;have v3:=Tryz.zeroValue3;have t4:=Tryz.underlying4;have a4:=Tryz.isAgg4;have z4:=Tryz.sizeOf4;have v4:=Tryz.zeroValue4;have t22:=Tryz.underlying22;have a22:=Tryz.isAgg22;have z22:=Tryz.sizeOf22;have v22:=Tryz.zeroValue22;have t68:=Tryz.underlying3;have a68:=Tryz.isAgg3;have BK:=Tryz.sizeOf3;have v68:=Tryz.zeroValue3;have u0:=run_underlying t0;have u3:=run_underlying t3;have u4:=run_underlying t4;have u22:=run_underlying t22;have u68:=run_underlying t68;have mixed:=cB
 cases hE:c.E0 0 with
 | none =>
   rw [hE] at fR;have fR:l=[]:=fR;subst fR;simp only [bj,hE] at lq;subst lq;refine Calls.mono (R:=λe w2=>e = .returned r/\w2=w') ?_ (by rintro _ _ ⟨rfl,rfl⟩;exact ⟨_,.arr 2,_,_,rfl,⟨rfl,rfl⟩,fj,UO⟩)
   go_enter func205,ntmps205
   go_wp2_with (at_builtin;refine Lib.wpList_append_run _ rfl _ _ _ _ rfl _ _ rfl rfl _ _ gi ?_)
   go_ret
   exact ⟨rfl,rfl⟩
 | some b =>
   rw [hE] at fR;simp only [bj,hE] at lq;obtain ⟨cap,cur,rfl,hh,da⟩:=lq;obtain ⟨ek,cur',nY,nx,gT,qN,CY⟩:=fR;rw [hh] at nY;cases nY
   obtain rfl:cap=ek:=oM;have UF:cap<=9223372036854775807:=by unfold maxLen at qN;omega
   refine Calls.mono (R:=λe w2=>e = .returned r/\w2=w') ?_ (by rintro _ _ ⟨rfl,rfl⟩;exact ⟨_,.arr 2,_,_,rfl,⟨rfl,rfl⟩,fj,UO⟩);clear da nx UO fj hle;obtain ⟨n,hn⟩:∃ n,l.length=n:=⟨_,rfl⟩;rw [hn] at gi gT ⊢
   go_enter func205,ntmps205
   go_wp2_with (at_builtin;refine Lib.wpList_append_run _ rfl _ _ _ _ rfl _ _ rfl rfl _ _ gi ?_)
   all_goals (go_ret;exact ⟨rfl,rfl⟩)
end Go.Proofs.YtolkmjfkkkiboaaGreat
namespace Go.Proofs.YtolkmjfkkkiboaaGreat
open Go.Ab Go.RowKit Go.MapKept Tryz
attribute [local irreducible] ay AW cw eA eo bL
def jY (l:List Int) (x:Int):Nat:=(l.filter λy=>decide (y<x)).length
def kL (l:List Int) (x:Int):List Int:=if x∈l then l else l.take (jY l x)++x :: l.drop (jY l x)
theorem OX {l:List Int} {x:Int} {i:Nat} (h2:i<=l.length) (h3:∀ m a,m<i->l[m]? = some a->a<x) (h4:∀ m a,i<=m->l[m]? = some a->x<=a):jY l x=i:=by
 have e:l=l.take i++l.drop i:=(KG i l).symm;have e1:(l.take i).filter (λy=>decide (y<x))=l.take i:=by
  rw [zd0];intro y hy;obtain ⟨m,hm⟩:=Ds hy;rw [nX] at hm;split at hm
  ·rename_i bB;exact cz (h3 m y bB hm)
  ·cases hm
 have e2:(l.drop i).filter (λy=>decide (y<x))=[]:=by
  rw [Nr];intro y hy;obtain ⟨m,hm⟩:=Ds hy;rw [Dt] at hm;have:=h4 (i+m) y oM hm;simp;omega
 unfold jY;rw [e,CC,e1,e2,gR,mw];omega
theorem YO (l:List Int) (x:Int):jY l x<=l.length:=mv ..
theorem wH (l:List Int) (hl:aU l) (hs:bq l) (x:Int):zA 204 [.d (.sl 1 (nums l)),.k x] [] (pQ (.tup [.k (jY l x),.d (.bool (decide (x∈l)))]) []):=by
 have eM:=nums_length l;unfold aU at hl;have Vh:∀ (i j:Nat) (a b:Int),i<j->l[i]? = some a->l[j]? = some b->a<b:=by
  intro i j a b ru ha hb;have hj:j<l.length:=by
   rcases qZ j l.length with h|h
   ·exact h
   ·rw [Ns h] at hb;cases hb
  rw [ff oM] at ha hb
  cases ha;cases hb
  exact CL.1 hs i j oM hj ru
 refine dB func204 ntmps204 ?_;refine aH aF bf aG (σ:=Nat×Nat) (fun|(i,j)=>([(0,.d (.sl 1 (nums l))),(1,.k x),(6,.k l.length),(7,.k i),(8,.k j)],[])) (λs=>s.1<=s.2/\s.2<=l.length/\(∀ m a,m<s.1->l[m]? = some a->a<x)/\(∀ m a,s.2<=m->l[m]? = some a->x<=a)) (λs=>s.2 - s.1) [0,1,6,7,8] ?_ ?_
 ·conv=>whnf
  refine ⟨(0,l.length),by rw [eM];rfl,rfl,br _,eQ _,oM,?_⟩;intro m a hm ha;rw [Ns hm] at ha;cases ha
 ·rintro ⟨i,j⟩ ⟨h1,h2,h3,h4⟩;simp only at h1 h2 h3 h4;refine rdv ?_;repeat' (apply tw<;>intro _)
  ·rename_i ru;intro z hz
   conv=>whnf
   refine ⟨dC,?_⟩;intro z1 pB
   conv=>whnf
   intro z2 oA;have hh:=half oM oM hz pB oA;subst hh;clear hz pB oA;obtain ⟨h,hh⟩:∃ h,(i+j) / 2=h:=⟨_,rfl⟩;rw [hh];obtain ⟨a,ha⟩:=eH l h
   conv=>whnf
   refine ⟨oM,[.j a],bD ha,?_⟩;refine rdv ?_;refine aQ (UA a x) ?_;repeat' (apply tw<;>intro _)
   ·rename_i hn;exact ⟨(h+1,j),rfl,rfl,⟨by show h+1<=j;omega,h2,λm b hm hb=>by
     rcases qZ m h with h5|h5
     ·have:=Vh m h b a h5 hb ha;omega
     ·have:m=h:=by have:m<h+1:=hm;omega
      subst this;rw [ha] at hb;cases hb;exact hn,h4⟩,by show j - (h+1)<j - i;omega⟩
   ·rename_i hn;exact ⟨(i,h),rfl,rfl,⟨by show i<=h;omega,by show h<=_;omega,h3,λm b hm hb=>by
     rcases qZ h m with h5|h5
     ·have:=Vh h m a b h5 ha hb;omega
     ·have:m=h:=by have:h<=m:=hm;omega
      subst this;rw [ha] at hb;cases hb;omega⟩,by show h - i<j - i;omega⟩
  ·rename_i ru bB;obtain rfl:i=j:=oM;have hI:jY l x=i:=OX h2 h3 h4;rw [hI];obtain ⟨a,ha⟩:=eH l i;have tu:x∈l↔a=x:=by
    constructor
    ·intro hx;obtain ⟨m,hm⟩:=Ds hx;rcases Nat.lt_trichotomy m i with h5|h5|h5
     ·have:=h3 m x h5 hm;omega
     ·subst h5;rw [ha] at hm;cases hm;rfl
     ·have h6:=Vh i m a x h5 ha hm;have h7:=h4 i a (eQ _) ha;omega
    ·intro e;rw [<-e];exact fU ha
   refine ⟨oM,[.j a],bD ha,?_⟩;refine rdv ?_;repeat' (apply tw<;>intro _)
   ·rename_i he;exact ⟨by rw [cz (tu.2 he)];rfl,rfl⟩
   ·rename_i he;refine ⟨oM,[.j a],bD ha,?_⟩
    conv=>whnf
    refine (Qf a).mono ?_;rintro _ _ ⟨rfl,rfl⟩
    conv=>whnf
    exact ⟨by rw [aP (λh=>he (tu.1 h))];rfl,rfl⟩
  ·rename_i ru bB;obtain rfl:i=j:=oM;have hI:jY l x=i:=OX h2 h3 h4;rw [hI];have tu:¬x∈l:=by
    intro hx;obtain ⟨m,hm⟩:=Ds hx;rcases qZ m l.length with h5|h5
    ·have:=h3 m x oM hm;omega
    ·rw [Ns h5] at hm;cases hm
   exact ⟨by rw [aP tu];rfl,rfl⟩
theorem YP (l:List Int) (c:Int) (i:Nat):(nums l).take i++[DV.j c] :: (nums l).drop i=nums (l.take i++c :: l.drop i):=by simp [nums]
theorem JR (l:List Int) (c:Int) (i:Nat) (hi:i<=l.length) (hl:l.length<=4294967296):zA 205 [.arr 0,.k i,.arr 1] [.row 3 1 (nums l) false,.row 3 1 [[.j c]] false] (pQ (.arr 2) [.dead,.row 3 1 [[.j c]] false,.row 3 1 (nums (l.take i++c :: l.drop i)) false]):=by
 have bR:=nums_length l;rcases Nat.lt_or_eq_of_le hi with h|h
 ·have:=GA (nums l) [.j c] i oM oM;rw [YP] at this;exact this
 ·subst h;have:=Dj (nums l) (λcs ck=>by obtain ⟨c,_,rfl⟩:=px.1 ck;rfl) [.j c] rfl oM;rw [bR] at this;rw [lD,ze6];simpa [nums] using this
theorem MD (l:List Int) (c:Int) (i:Nat) (hi:i<=l.length) (hl:l.length<=4294967296):zA 205 [.arr 0,.k i,.arr 1] [.row 3 1 (nums l) false,.row 3 1 [[.j c]] false] (pQ (.d (.sl 1 (nums (l.take i++c :: l.drop i)))) [.dead,.row 3 1 [[.j c]] false]):=by
 refine bT (JR l c i hi hl) ?_;rintro _ _ ⟨rfl,rfl⟩
 conv=>whnf
 exact ⟨rfl,rfl⟩
def rZ (p:Prim) (m:aW):Prim:=if p.dD=0∨m.ae≠p.dD then p else jV { p with aL:=kL p.aL m.src }
def oq (p:Prim) (m:aW):List aW:=if p.dD=0∨m.ae≠p.dD then [] else if eJ { p with aL:=kL p.aL m.src } then cM (dQ p) (cn (dN { p with aL:=kL p.aL m.src })) [] p.nodes.toNat else []
structure GB (p:Prim):Prop where
 cert:bM p.aq.nodes (dN p)
 aJ:(dN p).aJ
 cY:lr p.aq p.late
 room:p.aq.aa.length+p.late.length<60000
 Dh:ct p.late
def Vi:a_:=⟨[[],[],[1],[1,2],[2,1,3],[3,1,2,4],[4,2,1,3,5],[],[],[8],[8,9],[9,8,10,7,5,3,1,2,4,6],[11,10,9,8,7,6,5,4,3,2,1,0],[0,1,2,3,4,5,6,7,8,9,10,11,12],[12,11,10,9,8,7,6,5,4,3,2,1,0,13],[13,0,1,2,3,4,5,6,7,8,9,10,11,12,14]],[0,1,2,3,4,5,7,8,9],[(6,[]),(10,[]),(11,[12,13,14]),(15,[])]⟩
def QJ:a_:=⟨[[],[],[1],[1,2],[2,1,3],[3,1,2,4],[4,2,1,3,5],[],[],[8],[8,9],[9,8,10,7,5,3,1,2,4,6],[11,10,9,8,7,6,5,4,3,2,1,0],[0,1,2,3,4,5,6,7,8,9,10,11,12],[12,11,10,9,8,7,6,5,4,3,2,1,0,13],[13,0,1,2,3,4,5,6,7,8,9,10,11,12,14]],[0,1,2,3,4,5,7,8,9],[(10,[]),(6,[]),(11,[12,13,14]),(15,[])]⟩
def wI (d:Dag) (l:List Int):List Cert:=l.flatMap λx=>((fk d.aa x).bind λi=>d.aa[i]?).toList
def dg (p:Prim) (m:aW) (k:Nat):List aW:=(wI p.aq (m.aT.take k)).map λc=>(cn c).told p m.src
theorem qk (p:Prim) (m:aW) {k:Nat} {x:Int} (hx:m.aT[k]? = some x):dg p m (k+1)=dg p m k++(((fk p.aq.aa x).bind λi=>p.aq.aa[i]?).toList.map λc=>(cn c).told p m.src):=by
 unfold dg wI;rw [iu,hx];simp [List.flatMap_append]
theorem nS (p:Prim) (m:aW):∀ k,(dg p m k).length<=k
 | 0=>by simp [dg,wI]
 | k+1=>by
   have ih:=nS p m k
   cases hx:m.aT[k]? with
   | none =>
     have:m.aT.length<=k:=by simpa using hx
     unfold dg at ih ⊢;rw [gx oM] at ih ⊢;omega
   | some x =>
     rw [qk p m hx,iQ,tg];have:((fk p.aq.aa x).bind λi=>p.aq.aa[i]?).toList.length<=1:=by cases ((fk p.aq.aa x).bind λi=>p.aq.aa[i]?)<;>simp
     omega
end Go.Proofs.YtolkmjfkkkiboaaGreat
