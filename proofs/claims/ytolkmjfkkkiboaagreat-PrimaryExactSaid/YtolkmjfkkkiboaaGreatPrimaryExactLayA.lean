/- PrimaryExact: abstract runs. -/
import Derived.WalkKit
set_option linter.all false
def aP:= @decide_eq_false
def dW:= @List.getElem?_eq_some_iff
def ff:= @List.getElem?_eq_getElem
def br:= @Nat.zero_le
def cz:= @decide_eq_true
def gx:= @List.take_of_length_le
def fU:= @List.mem_of_getElem?
def ie:= @Nat.eq_of_beq_eq_true
def oy:= @List.eq_nil_of_length_eq_zero
def gQ:= @of_decide_eq_true
def iQ:= @List.length_append
def aR:= @if_neg
def iu:= @List.take_add_one
def jh:= @decide_eq_true_iff
def gA:= @List.mem_append
def mv:= @List.length_filter_le
def gR:= @List.append_nil
def lT:= @Nat.mul_le_mul_right
def kO:= @Nat.lt_of_lt_of_le
def lU:= @Array.length_toList
def ke:= @Option.some.injEq
def eQ:= @Nat.le_refl
def fS:= @Nat.le_trans
def ud:= @Array.getElem?_eq_some_iff
def lD:= @List.take_length
def bp:= @if_pos
def gP:= @Nat.zero_add
def nX:= @List.getElem?_take
def mw:= @List.length_take
def ue:= @List.getElem?_cons_succ
def jy:= @List.mem_cons
def oB:= @Bool.and_eq_true
def uX:= @Array.toArray_toList
def CK:= @List.getElem?_append_left
def CL:= @List.pairwise_iff_getElem
def xg:= @List.mem_cons_of_mem
def KU:= @List.findIdx?_eq_some_iff_getElem
def uf:= @List.append_assoc
def tf:= @List.length_drop
def va:= @List.flatten_cons
def tg:= @List.length_map
def G4:= @List.mem_take_iff_getElem
def KW:= @List.take_append_of_le_length
def tC:= @List.nil_append
def CB:= @List.length_take_le'
def nu:= @Exists.elim
def px:= @List.mem_map
def jB:= @cond_true
def vd:= @Nat.min_eq_left
def Ds:= @List.getElem?_of_mem
def CC:= @List.filter_append
def qZ:= @Nat.lt_or_ge
def Fc:= @List.mem_of_mem_take
def KF:= @List.getElem?_cons_zero
def CD:= @List.getElem?_map
def Hh:= @Nat.le_of_ble_eq_true
def G5:= @List.mem_of_mem_drop
def qu:= @Nat.add_mul
def Dt:= @List.getElem?_drop
def CM:= @List.size_toArray
def CN:= @List.nodup_append
def Hi:= @List.pairwise_append
def KG:= @List.take_append_drop
def CE:= @List.length_cons
def py:= @cond_false
def Nr:= @List.filter_eq_nil_iff
def Hj:= @List.mem_singleton
def Hk:= @Nat.eq_zero_or_pos
def Ns:= @List.getElem?_eq_none
def G6:= @Bool.not_eq_true'
def lM:= @congrArg
def Fe:= @List.all_eq_true
def Ff:= @List.filter_cons
def Du:= @List.length_nil
def Ww:= @List.getElem?_append_right
def Wx:= @List.findIdx?_eq_none_iff
def xh:= @Nat.mul_one
def RE:= @List.mem_append_right
def G7:= @List.mem_filter
def RF:= @List.length_singleton
def Pu:= @Array.toList_append
def Hl:= @Option.some.inj
def Dv:= @List.map_cons
def R8:= @List.mem_iff_getElem?
def R9:= @List.length_replicate
def zcQ:= @Array.getElem?_setIfInBounds_ne
def xd:= @beq_iff_eq
def KX:= @List.cons_append
def RG:= @List.flatten_append
def R_:= @List.mem_append_left
def Pv:= @List.mem_range'_1
def Nt:= @Nat.lt_succ_self
def Wy:= @List.singleton_append
def ZD:= @Go.MapKept.run_getObj_map
def ZE:= @Array.getElem?_eq_getElem
def Sa:= @Bool.false_eq_true
def Sb:= @List.pairwise_cons
def Pw:= @List.nodup_cons
def Wz:= @of_decide_eq_false
def ZF:= @Array.getElem?_toList
def RH:= @List.map_append
def G8:= @Int.le_refl
def zc7:= @Array.getD_eq_getD_getElem?
def zc8:= @Nat.le_mul_of_pos_right
def WA:= @Int.toNat_natCast
def zdA:= @Nat.add_mul_mod_self_right
def zdB:= @Nat.eq_of_mul_eq_mul_right
def WQ:= @List.set_cons_zero
def WR:= @Option.toList_some
def zdE:= @List.drop_of_length_le
def RI:= @List.drop_zero
def ZG:= @List.take_succ_cons
def WS:= @List.ext_getElem?
def WT:= @Array.size_append
def WB:= @Option.map_some
def zdK:= @List.length_eq_zero_iff
def ZH:= @List.find?_eq_none
def ZI:= @Int.emod_lt_of_pos
def WU:= @Option.bind_some
def zdO:= @Array.getElem?_append_left
def zdP:= @Int.tdiv_eq_ediv_of_nonneg
def zdQ:= @List.drop_succ_cons
def Nu:= @Nat.one_mul
def RJ:= @Nat.add_zero
def WV:= @Int.emod_nonneg
def zdU:= @List.set_cons_succ
def zdV:= @Array.size_setIfInBounds
def Sc:= @Nat.beq_refl
def WW:= @List.take_take
def zdY:= @List.getElem_take
def zdZ:= @List.getElem?_range
def zd0:= @List.filter_eq_self
def zd1:= @List.filter_sublist
def zd2:= @Int.tmod_eq_emod_of_nonneg
def zd3:= @Nat.mod_eq_of_lt
def zd4:= @decide_eq_decide
def WC:= @Int.ofNat_lt
def zd6:= @Go.MapKept.run_setObj_map
def zd7:= @List.mem_of_find?_eq_some
def zd8:= @Option.filter_eq_some_iff
def zd9:= @List.drop_eq_getElem_cons
def zeA:= @Array.replicate_succ
def zeB:= @Array.replicate_zero
def zeC:= @Bool.eq_iff_iff
def zeD:= @Int.compare_eq_lt
def zeE:= @Int.compare_eq_gt
def zeF:= @List.eq_nil_iff_forall_not_mem
def WX:= @Nat.le_of_lt
def ZJ:= @Nat.add_assoc
def zeI:= @Nat.add_sub_cancel_left
def zeJ:= @List.append_toArray
def zeK:= @decide_eq_false_iff_not
def zeL:= @List.pairwise_singleton
def zeM:= @List.getElem_mem
def zeN:= @List.any_eq_true
def zeO:= @List.take_zero
def ZK:= @Nat.add_comm
def zeQ:= @Bool.or_eq_true
def zeR:= @Array.getElem?_modify
def zeS:= @List.Pairwise.sublist
def WY:= @Nat.sub_mul
def zeU:= @List.getElem?_set
def zeV:= @Prod.mk.injEq
def zeW:= @List.Sublist.refl
def zeX:= @Int.lt_trichotomy
def zeY:= @List.push_toArray
def zeZ:= @List.any_eq_false
def Hm:= @if_true
def ze1:= @Bool.or_eq_false_iff
def ze2:= @List.take_left
def ze3:= @List.drop_append
def ze4:= @List.take_append
def ze5:= @Nat.le_of_not_lt
def ze6:= @List.drop_length
def ze7:= @List.length_take_le
def ze8:= @List.map_congr_left
def CO:= @not_or
def zfA:= @List.length_erase_of_mem
def zfB:= @Nat.sub_self
def zfC:= @List.eraseIdx_cons_succ
def zfD:= @Nat.add_right_comm
def zfE:= @List.range_succ
def zfF:= @List.drop_eq_nil_of_le
def zfG:= @List.length_pos_of_mem
def zfH:= @List.take_sublist
def zfI:= @Bool.eq_false_iff
def zfJ:= @Nat.min_self
def zfK:= @List.map_nil
def zfL:= @Option.getD_some
def zfM:= @List.mem_reverse
def zfN:= @List.getElem_map
def zfO:= @Nat.not_lt
def zfP:= @Nat.mod_one
theorem oM {p:Prop} (h:p:=by omega):p:=h
theorem dC {p:Prop} (h:p:=by decide):p:=h
theorem kR {p:Prop} (h:p:=by kernel_rfl):p:=h
theorem aM {p:Prop} (h:p:=by assumption):p:=h
theorem eG {α:Type} {p:Prop} (l:List α) (i:Nat) (f:∀ a,l[i]? = some a->p) (h:i<l.length:=by omega):p:=f _ (ff h)
theorem eH {α:Type} (l:List α) (i:Nat) (h:i<l.length:=by omega):∃ a,l[i]? = some a:=⟨_,ff h⟩
abbrev Go.Value.j (x:Int):Go.Value:=.int .i64 x
abbrev Go.Lit.j (x:Int):Go.Lit:=.int .i64 x
namespace Go.Ab
def ahV:List (Nat×Nat):=[(3,1),(4,1),(22,1),(47,6),(26,1),(28,3),(24,4),(5,1),(9,1),(2,1),(12,1),(21,1),(23,4),(25,1),(27,3),(29,16),(30,16),(31,1),(32,17),(33,17),(39,1),(43,1),(44,3),(45,3),(46,6),(48,18),(49,18),(50,26),(51,26),(70,1),(71,1),(72,17),(73,17),(105,3),(106,3),(113,1),(129,1),(130,17),(131,17),(150,1),(152,1),(167,1),(179,4),(180,4),(203,1),(209,1),(211,1),(221,1),(229,1),(233,1),(239,1),(252,1)]
noncomputable def G9 (t:TypeId):Nat:=List.rec (motive:=λ_=>Nat) 0 (λp _ ih=>bif Nat.beq p.1 t then p.2 else ih) ahV
inductive Sh where
 | int
 | str
 | sl (n:Nat)
def Hn (m:Nat):List Sh:=match m with
 | 1=>[.int]
 | 3=>[.int,.int,.int]
 | 4=>[.int,.int,.str,.str]
 | 6=>[.int,.int,.sl 1,.sl 1,.int,.sl 1]
 | 18=>[.int,.int,.int,.int,.int,.int,.sl 4,.int,.int,.sl 1,.sl 1,.int,.int,.sl 1,.sl 1,.int,.sl 1,.sl 1]
 | _=>[]
theorem WZ (m:Nat):(Hn m).length<=m:=by unfold Hn;split<;>simp
end Go.Ab
namespace Go.Ab
open Go.RowKit
inductive DV where
 | int (k:IntKind) (n:Int)
 | bool (b:Bool)
 | str (s:ByteArray)
 | Ho (k:FloatKind) (bits:Nat)
 | CP (k:FloatKind) (re im:Nat)
 | nils
 | sl (n:Nat) (xs:List (List DV))
 /-- a slice that is only read: nothing is said of the block behind it -/
 | slo (n:Nat) (xs:List (List DV))
 | Ap
 | Hp
 | Sd
 | any
abbrev DV.j (x:Int):DV:=.int .i64 x
inductive AV where
 | d (x:DV)
 | arr (i:Nat)
 | ptr (i off:Nat)
 | ap (i j off:Nat)
 | im (cs:List DV) (off:Nat)
 | map (i:Nat)
 | mp (i b off:Nat)
 | agg (cs:List AV)
 | tup (vs:List AV)
 | fn (f:FuncId) (qI:List AV)
 | sub (i h:Nat)
 /-- a slice whose blocks are all of an isle -/
 | isl (i:Nat) (x:DV)
abbrev AV.k (x:Int):AV:=.d (.int .i64 x)
structure RC where
 rd:Addr->Value->Prop
 pt:Nat->Nat->Prop
 ar:Nat->Value->Prop
 ap:Nat->Nat->Nat->Value->Prop
 is:Nat->DV->Value->Prop
def Cs {α:Type} (r:α->Value->Prop):List α->List Value->Prop
 | [],us=>us=[]
 | c :: l,us=>∃ u dt,us=u :: dt/\u.oneCell'=true/\r c u/\Cs r l dt
mutual
def VD (rd:Addr->Value->Prop):DV->Value->Prop
 | .int k n,v=>v = .int k n
 | .bool b,v=>v = .bool b
 | .str s,v=>v = .string s
 | .Ho k b,v=>v = .float k b
 | .CP k x y,v=>v = .complex k x y
 | .nils,v=>v = .slice none 0 0
 | .sl n xs,v=>0<n/\∃ a cap,v = .slice a xs.length cap/\xs.length<=cap/\cap<=maxLen/\(a=none->cap=0)/\∀ a',a=some a'->(xs=[]∨a'.spot=none)/\(0<cap->rd ⟨a'.block,a'.off,some n⟩ (.slice (some a') 0 cap))/\jC rd n xs a'
 | .slo n xs,v=>0<n/\∃ a cap,v = .slice a xs.length cap/\xs.length<=cap/\cap<=maxLen/\(a=none->cap=0)/\∀ a',a=some a'->(xs=[]∨a'.spot=none)/\jC rd n xs a'
 | .Ap,v=>v = .pointer none
 | .Hp,v=>v = .map none
 | .Sd,v=>v = .nilFunc
 | .any,_=>True
def jC (rd:Addr->Value->Prop) (n:Nat):List (List DV)->Addr->Prop
 | [],_=>True
 | cs :: r,a=>cs.length=n/\pF rd cs a/\jC rd n r ⟨a.block,a.off+n,none⟩
def pF (rd:Addr->Value->Prop):List DV->Addr->Prop
 | [],_=>True
 | c :: r,a=>(∃ u,rd a u/\u.oneCell'=true/\VD rd c u)/\pF rd r ⟨a.block,a.off+1,none⟩
end
mutual
def VR (R:RC):AV->Value->Prop
 | .d x,v=>VD R.rd x v
 | .arr i,v=>R.ar i v
 | .ptr i off,v=>∃ b,R.pt i b/\v = .pointer (some ⟨b,off,none⟩)
 | .ap i j off,v=>R.ap i j off v
 | .im cs off,v=>∃ a:Addr,v = .pointer (some ⟨a.block,a.off+off,none⟩)/\a.spot=none/\off<=cs.length/\pF R.rd cs a
 | .map i,v=>∃ b,R.pt i b/\v = .map (some b)
 | .mp _ b off,v=>v = .pointer (some ⟨b,off,none⟩)
 | .agg cs,v=>∃ us:Array Value,v = .agg us/\eK R cs us.toList
 | .tup cs,v=>∃ us:Array Value,v = .tuple us/\cD R cs us.toList
 | .fn f cs,v=>∃ us:Array Value,v = .func (.func f) #[] us/\cD R cs us.toList
 | .sub i h,v=>∃ p cap,v = .slice p h cap/\h<=cap/\cap<=maxLen/\R.ap i 0 0 (.pointer p)
 | .isl i x,v=>R.is i x v/\v.oneCell'=true
def eK (R:RC):List AV->List Value->Prop
 | [],us=>us=[]
 | c :: r,us=>∃ u dt,us=u :: dt/\u.oneCell'=true/\VR R c u/\eK R r dt
def cD (R:RC):List AV->List Value->Prop
 | [],us=>us=[]
 | c :: r,us=>∃ u dt,us=u :: dt/\VR R c u/\cD R r dt
end
def cR (rd:Addr->Value->Prop):List DV->List Value->Prop:=Cs (VD rd)
theorem fZ {R:RC}:∀ {xs:List AV} {us:List Value},eK R xs us↔Cs (VR R) xs us
 | [],us=>by simp [eK,Cs]
 | x :: xs,us=>by simp only [eK,Cs];constructor<;>(rintro ⟨u,dt,h1,h2,h3,h4⟩;exact ⟨u,dt,h1,h2,h3,by first|exact fZ.1 h4|exact fZ.2 h4⟩)
structure RC.le (R R':RC):Prop where
 rd:∀ a u,R.rd a u->R'.rd a u
 pt:∀ i b,R.pt i b->R'.pt i b
 ar:∀ i v,R.ar i v->R'.ar i v
 ap:∀ i j o v,R.ap i j o v->R'.ap i j o v
 is:∀ i x v,R.is i x v->R'.is i x v
theorem RC.le.refl (R:RC):R.le R:=⟨λ_ _ h=>h,λ_ _ h=>h,λ_ _ h=>h,λ_ _ _ _ h=>h,λ_ _ _ h=>h⟩
theorem RC.le.trans {R R' R'':RC} (h:R.le R') (k:R'.le R''):R.le R'' :=
 ⟨λ_ _ x=>k.rd _ _ (h.rd _ _ x),λ_ _ x=>k.pt _ _ (h.pt _ _ x),λ_ _ x=>k.ar _ _ (h.ar _ _ x),λ_ _ _ _ x=>k.ap _ _ _ _ (h.ap _ _ _ _ x),λ_ _ _ x=>k.is _ _ _ (h.is _ _ _ x)⟩
mutual
theorem VD.mono {rd jv:Addr->Value->Prop} (h:∀ a u,rd a u->jv a u):∀ (c:DV) (v:Value),VD rd c v->VD jv c v
 | .int k n,v,x=>by simpa [VD] using x
 | .bool b,v,x=>by simpa [VD] using x
 | .str b,v,x=>by simpa [VD] using x
 | .Ho k b,v,x=>by simpa [VD] using x
 | .CP _ _ _,v,x=>by simpa [VD] using x
 | .nils,v,x=>by simpa [VD] using x
 | .sl n xs,v,x=>by
   simp only [VD] at x ⊢;obtain ⟨hn,a,cap,h1,h2,h3,h4,h5⟩:=x;exact ⟨hn,a,cap,h1,h2,h3,h4,λa' ha=>⟨(h5 a' ha).1,λhc=>h _ _ ((h5 a' ha).2.1 hc),jC.mono h n xs a' (h5 a' ha).2.2⟩⟩
 | .slo n xs,v,x=>by
   simp only [VD] at x ⊢;obtain ⟨hn,a,cap,h1,h2,h3,h4,h5⟩:=x;exact ⟨hn,a,cap,h1,h2,h3,h4,λa' ha=>⟨(h5 a' ha).1,jC.mono h n xs a' (h5 a' ha).2⟩⟩
 | .Ap,v,x=>by simpa [VD] using x
 | .Hp,v,x=>by simpa [VD] using x
 | .Sd,v,x=>by simpa [VD] using x
 | .any,v,x=>by simp [VD]
theorem jC.mono {rd jv:Addr->Value->Prop} (h:∀ a u,rd a u->jv a u) (n:Nat):∀ (xs:List (List DV)) (a:Addr),jC rd n xs a->jC jv n xs a
 | [],a,_=>by simp [jC]
 | cs :: r,a,x=>by
   simp only [jC] at x ⊢;exact ⟨x.1,pF.mono h cs a x.2.1,jC.mono h n r _ x.2.2⟩
theorem pF.mono {rd jv:Addr->Value->Prop} (h:∀ a u,rd a u->jv a u):∀ (xs:List DV) (a:Addr),pF rd xs a->pF jv xs a
 | [],a,_=>by simp [pF]
 | c :: r,a,x=>by
   simp only [pF] at x ⊢;obtain ⟨⟨u,h1,h0,h2⟩,h3⟩:=x;exact ⟨⟨u,h _ _ h1,h0,VD.mono h c u h2⟩,pF.mono h r _ h3⟩
end
theorem aa7 {R:RC} {n:Nat} {xs:List (List DV)} {v:Value} (h:VR R (.d (.sl n xs)) v):VR R (.d (.slo n xs)) v:=by
 simp only [VR,VD] at h ⊢;obtain ⟨hn,a,cap,h1,h2,h3,h4,h5⟩:=h;exact ⟨hn,a,cap,h1,h2,h3,h4,λa' ha=>⟨(h5 a' ha).1,(h5 a' ha).2.2⟩⟩
theorem Cs.mono {α:Type} {r r':α->Value->Prop} (h:∀ x v,r x v->r' x v):∀ {xs:List α} {us:List Value},Cs r xs us->Cs r' xs us
 | [],us,x=>by simpa [Cs] using x
 | c :: l,us,x=>by
   simp only [Cs] at x ⊢;obtain ⟨u,dt,h1,h2,h3,h4⟩:=x;exact ⟨u,dt,h1,h2,h _ _ h3,Cs.mono h h4⟩
theorem cR.mono {rd jv:Addr->Value->Prop} (h:∀ a u,rd a u->jv a u) {xs:List DV} {us:List Value} (k:cR rd xs us):cR jv xs us:=Cs.mono (λx v=>VD.mono h x v) k
mutual
theorem VR.mono {R R':RC} (h:R.le R'):∀ (c:AV) (v:Value),VR R c v->VR R' c v
 | .d x,v,k=>by simp only [VR] at k ⊢;exact VD.mono h.rd x v k
 | .arr i,v,x=>by simp only [VR] at x ⊢;exact h.ar _ _ x
 | .ptr i off,v,x=>by simp only [VR] at x ⊢;obtain ⟨b,h1,h2⟩:=x;exact ⟨b,h.pt _ _ h1,h2⟩
 | .ap i j off,v,x=>by simp only [VR] at x ⊢;exact h.ap _ _ _ _ x
 | .im cs off,v,x=>by
   simp only [VR] at x ⊢;obtain ⟨a,h1,h2,h3,h4⟩:=x;exact ⟨a,h1,h2,h3,pF.mono h.rd cs a h4⟩
 | .map i,v,x=>by simp only [VR] at x ⊢;obtain ⟨b,h1,h2⟩:=x;exact ⟨b,h.pt _ _ h1,h2⟩
 | .mp i b off,v,x=>by simpa only [VR] using x
 | .agg cs,v,x=>by simp only [VR] at x ⊢;obtain ⟨us,h1,h2⟩:=x;exact ⟨us,h1,eK.mono h cs _ h2⟩
 | .tup cs,v,x=>by simp only [VR] at x ⊢;obtain ⟨us,h1,h2⟩:=x;exact ⟨us,h1,cD.mono h cs _ h2⟩
 | .fn f cs,v,x=>by simp only [VR] at x ⊢;obtain ⟨us,h1,h2⟩:=x;exact ⟨us,h1,cD.mono h cs _ h2⟩
 | .sub i n,v,x=>by simp only [VR] at x ⊢;obtain ⟨p,cap,h1,h2,h3,h4⟩:=x;exact ⟨p,cap,h1,h2,h3,h.ap _ _ _ _ h4⟩
 | .isl i x,v,k=>by simp only [VR] at k ⊢;exact ⟨h.is _ _ _ k.1,k.2⟩
theorem eK.mono {R R':RC} (h:R.le R'):∀ (xs:List AV) (us:List Value),eK R xs us->eK R' xs us
 | [],us,x=>by simpa [eK] using x
 | c :: r,us,x=>by
   simp only [eK] at x ⊢;obtain ⟨u,dt,h1,h0,h2,h3⟩:=x;exact ⟨u,dt,h1,h0,VR.mono h c u h2,eK.mono h r dt h3⟩
theorem cD.mono {R R':RC} (h:R.le R'):∀ (xs:List AV) (us:List Value),cD R xs us->cD R' xs us
 | [],us,x=>by simpa [cD] using x
 | c :: r,us,x=>by
   simp only [cD] at x ⊢;obtain ⟨u,dt,h1,h2,h3⟩:=x;exact ⟨u,dt,h1,VR.mono h c u h2,cD.mono h r dt h3⟩
end
inductive KV where
 | one (x:DV)
 | agg (cs:List DV)
inductive MV where
 | v (x:KV)
 | box (b:Nat) (cs:List DV)
def xi (rd:Addr->Value->Prop):KV->Value->Prop
 | .one x,v=>v.oneCell'=true/\VD rd x v
 | .agg cs,v=>∃ us:Array Value,v = .agg us/\cR rd cs us.toList
def rj (rd:Addr->Value->Prop) (w:World) (b:Nat) (cs:List DV):Prop:=∃ cur e,w.heap[b]? = some (.cells cur e (0,0))/\cR rd cs cur.toList
def VMV (rd:Addr->Value->Prop) (w:World):MV->Value->Prop
 | .v x,v=>xi rd x v
 | .box b cs,v=>v = .pointer (some ⟨b,0,none⟩)/\rj rd w b cs
def kf (rd:Addr->Value->Prop) (w:World):List (KV×MV)->List MapEntry->Prop
 | [],us=>us=[]
 | (k,m) :: r,us=>∃ u dt,us=u :: dt/\xi rd k u.key/\VMV rd w m u.val/\kf rd w r dt
def bg:List (KV×MV)->List Nat
 | []=>[]
 | (_,.box b _) :: r=>b :: bg r
 | (_,.v _) :: r=>bg r
inductive zp where
 | bool (b:Bool)
 | hole (b k:Nat) (ok:Bool)
instance:Coe Bool zp:=⟨zp.bool⟩
inductive AB where
 | cells (cs:List AV)
 | row (e n:Nat) (xs:List (List DV)) (sh:Bool)
 | map (es:List (KV×MV))
 | cK (b:Nat) (cs:List DV)
 | dead
 | obj (o:Obj)
 | qJ (o:Obj) (n cap:Nat)
 /-- all the blocks from one on; as they were made (true), or spoilt -/
 | aN (lo n:Nat) (ok:zp)
def AB.gB:AB->Bool
 | .cells _=>true
 | .map _=>true
 | .obj _=>true
 | _=>false
def AB.live:AB->Bool
 | .dead=>false
 | .cK _ _=>false
 | .aN _ _ _=>false
 | _=>true
def AB.mut:AB->Nat->Prop
 | .cells _,_=>True
 | .map _,_=>True
 | .row _ n xs sh,o=>sh=true->xs.length * n<=o
 | .cK _ _,_=>False
 | .dead,_=>False
 | .obj _,_=>True
 | .qJ _ _ _,_=>True
 | .aN _ _ _,_=>False
def AB.boxes:AB->List Nat
 | .map es=>bg es
 | .cK b _=>[b]
 | .aN lo n _=>List.range' lo n
 | _=>[]
structure MZ where
 m:Nat->Nat->Prop
 s:Option Nat
instance:CoeFun MZ λ_=>Nat->Nat->Prop:=⟨MZ.m⟩
structure Ctx where
 w0:World
 P0:Nat->Prop
 M0:MZ
 E0:Nat->Option Nat
 L0:List AB
 n:Nat
structure Ctx.wf (c:Ctx):Prop where
 low:∀ b,c.P0 b->b<c.w0.heap.size
 sub:∀ b o,c.M0 b o->c.P0 b
 st:∀ s,c.M0.s=some s->∀ b,b<s->c.P0 b
theorem Ctx.wf.ahW {c:Ctx} (hc:c.wf) {s:Nat} (h:c.M0.s=some s):s<=c.w0.heap.size:=by
 rcases qZ c.w0.heap.size s with h1|h1
 ·have:=hc.low _ (hc.st s h _ h1);omega
 ·exact h1
def G_ (M0:MZ) (E:Nat->Option Nat) (L:List AB) (b o:Nat):Prop :=
 M0 b o∨(∃ i ab,L[i]? = some ab/\E i=some b/\ab.mut o)∨∃ (i:Nat) (ab:AB),L[i]? = some ab/\b∈ab.boxes
def bj (E:Nat->Option Nat) (w:World) (i:Nat) (v:Value):AB->Prop
 | .row e n xs _=>match E i with
   | none=>v = .slice none 0 0
   | some b=>∃ cap cur,v = .slice (some ⟨b,0,none⟩) xs.length cap/\w.heap[b]? = some (.cells cur e (0,0))/\cur.size=cap * n
 | .dead=>∃ p l k,v = .slice p l k
 | .cells cs=>∃ b,E i=some b/\v = .slice (some ⟨b,0,none⟩) cs.length cs.length
 | .qJ _ n cap=>∃ b,E i=some b/\v = .slice (some ⟨b,0,none⟩) n cap
 | _=>False
def mF (E:Nat->Option Nat) (i j o:Nat) (v:Value):AB->Prop
 | .row _ n _ _=>∃ b,E i=some b/\v = .pointer (some ⟨b,j * n+o,none⟩)
 | .dead=>∃ p,v = .pointer p
 | _=>False
def aeI (sl:Nat->Value->Prop):Sh->Value->Prop
 | .int,v=>∃ k,v = .j k
 | .str,v=>∃ s,v = .string s
 | .sl n,v=>sl n v
def xj (m:Nat×Nat) (n:Nat):Prop:=∀ o,o<n->¬(m.1<=o/\o<m.2)
theorem Hq (n:Nat):xj (0,0) n:=λ_ _ h=>by have:=h.2;simp at this
def Tk (s:Option Nat) (w:World) (a:Addr) (u:Value):Prop :=
 ∃ n,a.spot=some n/\∀ s0,s=some s0->s0<=a.block/\∃ (cur:Array Value) (e:TypeId) (m:Nat×Nat) (cap:Nat),u = .slice (some ⟨a.block,a.off,none⟩) 0 cap/\w.heap[a.block]? = some (.cells cur e m)/\xj m cur.size/\G9 e=n/\a.off % n=0/\a.off+cap * n<=cur.size
def iG (w w':World):Prop:=∀ (b:Nat) (cur:Array Value) (e:TypeId) (m:Nat×Nat),w.heap[b]? = some (.cells cur e m)->xj m cur.size->∃ (cur':Array Value) (m':Nat×Nat),w'.heap[b]? = some (.cells cur' e m')/\cur'.size=cur.size/\xj m' cur'.size
theorem Tk.mono {s:Option Nat} {w w':World} (h:iG w w') {a:Addr} {u:Value} (k:Tk s w a u):Tk s w' a u:=by
 obtain ⟨n,h1,h2⟩:=k;refine ⟨n,h1,λs0 hs=>?_⟩;obtain ⟨k1,cur,e,m,cap,k2,k3,k4,k5,k6,k7⟩:=h2 s0 hs;obtain ⟨cur',m',l1,l2,l3⟩:=h _ _ _ _ k3 k4;exact ⟨k1,cur',e,m',cap,k2,l1,l3,k5,k6,by rw [l2];exact k7⟩
theorem iG.refl (w:World):iG w w:=λ_ cur _ m h k=>⟨cur,m,h,rfl,k⟩
theorem iG.trans {a b c:World} (h:iG a b) (k:iG b c):iG a c:=λx cur e m h1 h2=>by
 obtain ⟨cur',m',l1,l2,l3⟩:=h x cur e m h1 h2;obtain ⟨fx,m2,k1,k2,k3⟩:=k x cur' e m' l1 l3;exact ⟨fx,m2,k1,k2.trans l2,k3⟩
theorem iG.Dw {w w':World} (h:∀ b,b<w.heap.size->w'.heap[b]? = w.heap[b]?):iG w w':=λb cur e m h1 h2 =>
 ⟨cur,m,by rw [h b (ud.1 h1).1];exact h1,rfl,h2⟩
theorem iG.Hr {w w':World} {b:Nat} (h:∀ x,x≠b->w'.heap[x]? = w.heap[x]?) (hb:∀ cur e m,w.heap[b]? ≠ some (.cells cur e m)):iG w w':=λx cur e m h1 h2=>by
 by_cases hx:x=b
 ·subst hx;exact absurd h1 (hb cur e m)
 ·exact ⟨cur,m,by rw [h x hx];exact h1,rfl,h2⟩
theorem Tk.any {w:World} {a:Addr} {u:Value} {n:Nat} (h:a.spot=some n):Tk none w a u:=⟨n,h,λ_ h=>by cases h⟩
def rdI (lo n:Nat) (w:World) (a:Addr) (u:Value):Prop:=lo<=a.block/\a.block<lo+n/\(w.cell? a=some u∨Tk (some lo) w a u)
def rdX (lo n b k:Nat) (w:World) (a:Addr) (u:Value):Prop:=lo<=a.block/\a.block<lo+n/\((w.cell? a=some u/\¬(b<=a.block/\a.block<b+k))∨Tk (some lo) w a u)
def rdY (b k:Nat) (w:World) (a:Addr) (u:Value):Prop:=b<=a.block/\a.block<b+k/\w.cell? a=some u
def SL (lo n:Nat) (w:World):Nat->Nat->Value->Prop
 | 0,_,v=>v = .slice none 0 0
 | k+1,m,v=>∃ p len cap,v = .slice p len cap/\len<=cap/\(cap<=maxLen/\len<=4294967296)/\(cap=0∨∃ a,p=some a/\a.spot=none/\lo<=a.block/\a.block<lo+n /\
    (∃ (cur:Array Value) (e:TypeId) (mk:Nat×Nat),w.heap[a.block]? = some (.cells cur e mk)/\xj mk cur.size/\G9 e=m/\a.off % m=0/\a.off+cap * m<=cur.size) /\
    ∀ i j sh,i<len->(Hn m)[j]? = some sh->∃ u,w.cell? ⟨a.block,a.off+i * m+j,none⟩=some u/\aeI (λm' v'=>SL lo n w k m' v') sh u)
def Se (f:Nat->DV->Prop):List Sh->List DV->Prop
 | [],cs=>cs=[]
 | .int :: r,cs=>∃ k l,cs = .j k :: l/\Se f r l
 | .str :: r,cs=>∃ s l,cs = .str s :: l/\Se f r l
 | .sl m :: r,cs=>∃ x l,cs=x :: l/\f m x/\Se f r l
def zq:Nat->Nat->DV->Prop
 | 0,_,x=>x = .nils
 | k+1,m,x=>x = .nils∨∃ xs,x = .sl m xs/\xs.length<=4294967296/\∀ cs∈xs,Se (zq k) (Hn m) cs
def DV.Nv:DV->Bool
 | .slo _ _=>true
 | _=>false
def jD (w:World) (x:DV) (v:Value):AB->Prop
 | .aN lo n (.bool true)=>VD (rdI lo n w) x v
 | .aN lo n (.bool false)=>∀ m,zq 3 m x->SL lo n w 3 m v
 | .aN lo n (.hole b k ok)=>(x.Nv=false->VD (rdX lo n b k w) x v)/\∀ m xs,x = .slo m xs->(ok=true->VD (rdY b k w) x v)/\lo<=b/\b+k<=lo+n/\SL b k w 3 m v
 | _=>False
def aj (M0:MZ) (E:Nat->Option Nat) (L:List AB) (w:World):RC where
 rd a u:=(w.cell? a=some u/\¬G_ M0 E L a.block a.off)∨Tk M0.s w a u
 pt i b:=∃ ab,L[i]? = some ab/\ab.gB=true/\E i=some b
 ar i v:=∃ ab,L[i]? = some ab/\bj E w i v ab
 ap i j o v:=∃ ab,L[i]? = some ab/\mF E i j o v ab
 is i x v:=∃ ab,L[i]? = some ab/\jD w x v ab
def RN (e:TypeId) (n:Nat):Prop:=0<n/\G9 e=n
def BR (R:RC) (w:World) (eb:Option Nat):AB->Prop
 | .cells cs=>∃ b cur e,eb=some b/\w.heap[b]? = some (.cells cur e (0,0))/\eK R cs cur.toList
 | .row e n xs _=>RN e n/\(∀ cs∈xs,cs.length=n) /\
   match eb with
   | none=>xs=[]
   | some b=>∃ cap cur,w.heap[b]? = some (.cells cur e (0,0))/\cur.size=cap * n/\xs.length<=cap/\cap<=maxLen/\cR R.rd xs.flatten (cur.toList.take (xs.length * n))
 | .map es=>∃ b eR clock,eb=some b/\w.heap[b]? = some (.map eR clock)/\kf R.rd w es eR.toList/\(eR.toList.map (·.born)).Pairwise (· < ·)/\∀ x∈eR.toList,x.born<clock
 | .cK b cs=>rj R.rd w b cs
 | .dead=>True
 | .obj o=>∃ b,eb=some b/\w.heap[b]? = some o
 | .qJ o _ _=>∃ b,eb=some b/\w.heap[b]? = some o
 | .aN lo n _=>∀ b,lo<=b->b<lo+n->∃ o,w.heap[b]? = some o
structure Sf (P0:Nat->Prop) (E:Nat->Option Nat) (L:List AB):Prop where
 low:∀ (i:Nat) (ab:AB) (b:Nat),L[i]? = some ab->b∈ab.boxes->¬P0 b
 own:∀ (i j:Nat) (ab bQ:AB) (b:Nat),L[i]? = some ab->b∈ab.boxes->L[j]? = some bQ->bQ.live=true->E j=some b->False
 nd:∀ (i:Nat) (ab:AB),L[i]? = some ab->ab.boxes.Nodup
 dj:∀ (i j:Nat) (ab bQ:AB) (b:Nat),L[i]? = some ab->L[j]? = some bQ->b∈ab.boxes->b∈bQ.boxes->i=j
structure aI (c:Ctx) (E:Nat->Option Nat) (L:List AB) (w:World):Prop where
 os:w.os=c.w0.os
 tape:w.tape=c.w0.tape
 output:w.output=c.w0.output
 size:c.w0.heap.size<=w.heap.size
 gS:∀ b,c.P0 b->w.heap[b]? = c.w0.heap[b]?
 fQ:∀ i ab,L[i]? = some ab->BR (aj c.M0 E L w) w (E i) ab
 low:∀ i ab b,L[i]? = some ab->ab.live=true->E i=some b->¬c.P0 b
 inj:∀ i j ab bQ b,L[i]? = some ab->L[j]? = some bQ->ab.live=true->bQ.live=true->E i=some b->E j=some b->i=j
 q_:(aj c.M0 c.E0 c.L0 c.w0).le (aj c.M0 E L w)
 bx:Sf c.P0 E L
theorem ug {M M':MZ} {E E':Nat->Option Nat} {L L':List AB} {w w':World} (hs:M'.s=M.s) (hl:iG w w')
  (h:∀ a u,w.cell? a=some u->¬G_ M E L a.block a.off->w'.cell? a=some u/\¬G_ M' E' L' a.block a.off):∀ a u,(aj M E L w).rd a u->(aj M' E' L' w').rd a u:=by
 rintro a u (⟨h1,h2⟩|ht)
 ·exact .inl (h a u h1 h2)
 ·exact .inr (by rw [hs];exact ht.mono hl)
theorem f_ {M:MZ} {E:Nat->Option Nat} {L:List AB} {w:World} {a:Addr} {u:Value} (h:(aj M E L w).rd a u) (ha:a.spot=none):w.cell? a=some u/\¬G_ M E L a.block a.off:=by
 rcases h with h|⟨n,hn,_⟩
 ·exact h
 ·rw [ha] at hn;cases hn
def TkC (R:RC):Prop:=∀ (a:Addr) (n cap k:Nat),a.spot=none->k<=cap->R.rd ⟨a.block,a.off,some n⟩ (.slice (some a) 0 cap)->R.rd ⟨a.block,a.off+k * n,some n⟩ (.slice (some ⟨a.block,a.off+k * n,none⟩) 0 (cap - k))
theorem Nw {M:MZ} {E:Nat->Option Nat} {L:List AB} {w:World} {a:Addr} {u:Value} (h:(aj M E L w).rd a u) {n:Nat} (ha:a.spot=some n):Tk M.s w a u:=by
 rcases h with h|h
 ·have h1:=h.1;unfold World.cell? at h1;split at h1
  ·rw [ha] at h1;simp at h1
  ·cases h1
 ·exact h
theorem Aq (M:MZ) (E:Nat->Option Nat) (L:List AB) (w:World):TkC (aj M E L w):=by
 intro a n cap k ha hk h;obtain ⟨n',h1,h2⟩:=Nw h rfl
 cases h1
 refine .inr ⟨n,rfl,λs0 hs=>?_⟩;obtain ⟨h3,cur,e,m,ek,h4,h5,h6,h7,h8,h9⟩:=h2 s0 hs;simp only [Value.slice.injEq] at h4;obtain ⟨_,_,rfl⟩:=h4;refine ⟨h3,cur,e,m,cap - k,rfl,h5,h6,h7,?_,?_⟩
 ·show (a.off+k * n) % n=0;rw [zdA];exact h8
 ·show a.off+k * n+(cap - k) * n<=cur.size;have:k * n+(cap - k) * n=cap * n:=by rw [<-qu];congr 1;omega
  have h9':a.off+cap * n<=cur.size:=h9;omega
theorem Sg {M:MZ} {E:Nat->Option Nat} {L:List AB} {w:World} {a:Addr} {n cap c':Nat} (h:(aj M E L w).rd ⟨a.block,a.off,some n⟩ (.slice (some a) 0 cap)) (hc:c'<=cap):(aj M E L w).rd ⟨a.block,a.off,some n⟩ (.slice (some a) 0 c'):=by
 obtain ⟨n',h1,h2⟩:=Nw h rfl;refine .inr ⟨n',h1,λs0 hs=>?_⟩;obtain ⟨h3,cur,e,m,ek,h4,h5,h6,h7,h8,h9⟩:=h2 s0 hs;simp only [Value.slice.injEq] at h4;obtain ⟨h4,_,rfl⟩:=h4;exact ⟨h3,cur,e,m,c',by rw [h4],h5,h6,h7,h8,fS (Nat.add_le_add_left (lT _ hc) _) h9⟩
def rdW (W:World):Addr->Value->Prop:=λa u=>W.cell? a=some u∨∃ n,a.spot=some n
def M00:MZ:=⟨λ_ _=>False,none⟩
abbrev AF:=List (Nat×AV)
noncomputable def bt (F:AF) (s:Nat):AV:=List.rec (motive:=λ_=>AV) (.d .any) (λp _ ih=>bif Nat.beq p.1 s then p.2 else ih) F
theorem du (s:Nat):bt [] s = .d .any:=rfl
theorem b_ (t:Nat) (v:AV) (r:AF) (s:Nat):bt ((t,v) :: r) s=bif Nat.beq t s then v else bt r s:=rfl
structure eE (c:Ctx) (E:Nat->Option Nat) (F:AF) (L:List AB) (a:Act) (w:World):Prop where
 h:aI c E L w
 dL:∀ s,VR (aj c.M0 E L w) (bt F s) (a.tmps.getD s undef)
 nt:a.tmps.size=c.n
 df:a.defers=[]
theorem KY {rd:Addr->Value->Prop} {w:World}:∀ {es:List (KV×MV)} {us:List MapEntry},kf rd w es us->∀ b∈bg es,b<w.heap.size
 | [],_,_,b,h=>by simp [bg] at h
 | (k,m) :: r,us,hv,b,h=>by
   simp only [kf] at hv;obtain ⟨u,dt,_,_,h2,h3⟩:=hv
   cases m with
   | v x=>exact KY (es:=r) h3 b (by simpa [bg] using h)
   | box b' cs =>
     simp only [bg,jy] at h;rcases h with rfl|h
     ·obtain ⟨_,cur,e,h4,_⟩:=h2;exact (ud.1 h4).1
     ·exact KY (es:=r) h3 b h
theorem aI.blt {c:Ctx} {E:Nat->Option Nat} {L:List AB} {w:World} (h:aI c E L w) {i:Nat} {ab:AB} {b:Nat} (hi:L[i]? = some ab) (hb:b∈ab.boxes):b<w.heap.size:=by
 have fy:=h.fQ i ab hi
 cases ab with
 | map es =>
   obtain ⟨_,eR,_,_,_,h3,_⟩:=fy;exact KY h3 b hb
 | cK b' cs =>
   simp only [AB.boxes,Hj] at hb;subst hb;obtain ⟨cur,e,h1,_⟩:=fy;exact (ud.1 h1).1
 | aN lo n ok =>
   simp only [AB.boxes,Pv] at hb;obtain ⟨o,h1⟩:=fy b hb.1 hb.2;exact (ud.1 h1).1
 | _=>simp [AB.boxes] at hb
theorem aI.bl {c:Ctx} {E:Nat->Option Nat} {L:List AB} {w:World} (h:aI c E L w):∀ (i:Nat) (ab:AB),L[i]? = some ab->∀ b∈ab.boxes,b<w.heap.size:=λ_ _ hi _ hb=>h.blt hi hb
theorem aI.lt {c:Ctx} {E:Nat->Option Nat} {L:List AB} {w:World} (h:aI c E L w) {i:Nat} {ab:AB} {b:Nat} (hi:L[i]? = some ab) (hl:ab.live=true) (hb:E i=some b):b<w.heap.size:=by
 have fy:=h.fQ i ab hi
 cases ab with
 | cells cs =>
   obtain ⟨b',cur,e,h1,h2,_⟩:=fy;rw [hb] at h1;cases h1
   exact (ud.1 h2).1
 | row e n xs sh =>
   obtain ⟨_,_,h3⟩:=fy;rw [hb] at h3;obtain ⟨cap,cur,h4,_⟩:=h3;exact (ud.1 h4).1
 | map es =>
   obtain ⟨b',eR,clock,h1,h2,_⟩:=fy;rw [hb] at h1;cases h1
   exact (ud.1 h2).1
 | cK b cs=>simp [AB.live] at hl
 | obj o =>
   obtain ⟨b',h1,h2⟩:=fy;rw [hb] at h1;cases h1
   exact (ud.1 h2).1
 | qJ o n cap =>
   obtain ⟨b',h1,h2⟩:=fy;rw [hb] at h1;cases h1
   exact (ud.1 h2).1
 | dead=>simp [AB.live] at hl
 | aN lo n ok=>simp [AB.live] at hl
theorem kY {E:Nat->Option Nat} {w:World} {i:Nat} {v:Value} {ab:AB} (h:bj E w i v ab):∃ p l k,v = .slice p l k:=by
 cases ab with
 | cells cs=>obtain ⟨b,_,h⟩:=h;exact ⟨_,_,_,h⟩
 | map es=>exact h.elim
 | cK b cs=>exact h.elim
 | obj o=>exact h.elim
 | qJ o n cap=>obtain ⟨b,_,h⟩:=h;exact ⟨_,_,_,h⟩
 | dead=>exact h
 | aN lo n ok=>exact h.elim
 | row e n xs sh =>
   simp only [bj] at h;split at h
   ·exact ⟨_,_,_,h⟩
   ·obtain ⟨cap,cur,h,_⟩:=h;exact ⟨_,_,_,h⟩
theorem iH {E:Nat->Option Nat} {i j o:Nat} {v:Value} {ab:AB} (h:mF E i j o v ab):∃ p,v = .pointer p:=by
 cases ab with
 | cells cs=>exact h.elim
 | map es=>exact h.elim
 | cK b cs=>exact h.elim
 | obj o=>exact h.elim
 | qJ o n cap=>exact h.elim
 | dead=>exact h
 | aN lo n ok=>exact h.elim
 | row e n xs sh=>obtain ⟨b,_,h⟩:=h;exact ⟨_,h⟩
theorem sx {w w':World} {a:Addr} (h:∀ cur e m,w.heap[a.block]? = some (.cells cur e m)->w'.heap[a.block]? = some (.cells cur e m)) {u:Value} (k:w.cell? a=some u):w'.cell? a=some u:=by
 have hb:∃ cur e m,w.heap[a.block]? = some (.cells cur e m):=by
  unfold World.cell? at k;split at k
  ·rename_i c e m he;exact ⟨_,_,_,he⟩
  ·cases k
 obtain ⟨cur,e,m,hb⟩:=hb;rw [World.cell?_of_block (w:=w) (by rw [h _ _ _ hb,hb])];exact k
theorem Si {lo n:Nat} {w w':World} (h:∀ b,lo<=b->b<lo+n->∀ cur e m,w.heap[b]? = some (.cells cur e m)->w'.heap[b]? = some (.cells cur e m)) {a:Addr} {u:Value} (k:rdI lo n w a u):rdI lo n w' a u:=by
 obtain ⟨h1,h2,h3⟩:=k;refine ⟨h1,h2,h3.imp (λh3=>sx (h _ h1 h2) h3) λ⟨m,h4,h5⟩=>⟨m,h4,λs hs=>?_⟩⟩;obtain ⟨h6,cur,e,mk,cap,h7,h8,h9⟩:=h5 s hs;exact ⟨h6,cur,e,mk,cap,h7,h _ h1 h2 _ _ _ h8,h9⟩
theorem ve {lo n:Nat} {w w':World} (h:∀ b,lo<=b->b<lo+n->∀ cur e m,w.heap[b]? = some (.cells cur e m)->w'.heap[b]? = some (.cells cur e m)):∀ (k m:Nat) (v:Value),SL lo n w k m v->SL lo n w' k m v
 | 0,m,v,x=>x
 | k+1,m,v,x=>by
   obtain ⟨p,len,cap,h1,h2,h3,h4⟩:=x;refine ⟨p,len,cap,h1,h2,h3,h4.imp id ?_⟩;rintro ⟨a,e1,e2,e3,e4,⟨cur,e,mk,e5,e6⟩,e7⟩;refine ⟨a,e1,e2,e3,e4,⟨cur,e,mk,h _ e3 e4 _ _ _ e5,e6⟩,λi j sh hi hj=>?_⟩;obtain ⟨u,u1,u2⟩:=e7 i j sh hi hj;refine ⟨u,sx (a:=⟨a.block,a.off+i * m+j,none⟩) (h _ e3 e4) u1,?_⟩
   cases sh with
   | int=>exact u2
   | str=>exact u2
   | sl m'=>exact ve h k m' u u2
theorem vf {w w':World} {x:DV} {v:Value} {ab:AB} (mG:∀ b∈ab.boxes,∀ cur e m,w.heap[b]? = some (.cells cur e m)->w'.heap[b]? = some (.cells cur e m)) (h:jD w x v ab):jD w' x v ab:=by
 cases ab with
 | aN lo n ok =>
   have hb:∀ b,lo<=b->b<lo+n->∀ cur e m,w.heap[b]? = some (.cells cur e m)->w'.heap[b]? = some (.cells cur e m):=λb h1 h2=>mG b (by simp only [AB.boxes,Pv];exact ⟨h1,h2⟩)
   cases ok with
   | bool ok =>
     cases ok with
     | true=>exact VD.mono (λa u=>Si hb) _ _ h
     | false=>exact λm hf=>ve hb _ _ _ (h m hf)
   | hole b k ok =>
     refine ⟨λe=>VD.mono (λa u hr=>?_) _ _ (h.1 e),λm xs e=>?_⟩
     ·obtain ⟨h1,h2,h3|h3⟩:=hr
      ·exact ⟨h1,h2,.inl ⟨sx (hb _ h1 h2) h3.1,h3.2⟩⟩
      ·obtain ⟨m,h4,h5⟩:=h3;refine ⟨h1,h2,.inr ⟨m,h4,λs hs=>?_⟩⟩;obtain ⟨h6,cur,e,mk,cap,h7,h8,h9⟩:=h5 s hs;exact ⟨h6,cur,e,mk,cap,h7,hb _ h1 h2 _ _ _ h8,h9⟩
     ·obtain ⟨k1,k2,k3,k4⟩:=h.2 m xs e;have iR:∀ x,b<=x->x<b+k->∀ cur e m,w.heap[x]? = some (.cells cur e m)->w'.heap[x]? = some (.cells cur e m):=λx g1 g2=>hb x oM oM;exact ⟨λe2=>VD.mono (λa u hr=>⟨hr.1,hr.2.1,sx (iR _ hr.1 hr.2.1) hr.2.2⟩) _ _ (k1 e2),k2,k3,ve iR _ _ _ k4⟩
 | _=>exact h.elim
theorem fV {w w':World} {x:DV} {v:Value} {ab:AB} (mG:∀ b∈ab.boxes,w'.heap[b]? = w.heap[b]?) (h:jD w x v ab):jD w' x v ab :=
 vf (λb hb cur e m h=>by rw [mG b hb];exact h) h
theorem pG {w:World} {x:DV} {v:Value} {ab:AB} (h:jD w x v ab):∃ lo n ok,ab = .aN lo n ok:=by
 cases ab with
 | aN lo n ok=>exact ⟨lo,n,ok,rfl⟩
 | _=>exact h.elim
theorem AB.Ar {ab:AB} {o:Nat} (h:ab.mut o):ab.live=true:=by
 cases ab<;>simp_all [AB.mut,AB.live]
theorem jE {w:World} {a:Addr} {u:Value} (h:w.cell? a=some u):a.block<w.heap.size:=World.block_lt_of_cell? w a h
def cu (F:AF) (d:Option Nat) (v:AV):AF :=
 match d with
 | some d=>(d,v) :: F
 | none=>F
theorem eE.put {c:Ctx} {E:Nat->Option Nat} {F:AF} {L:List AB} {a:Act} {w:World} (h:eE c E F L a w) (d:Option Nat) (av:AV) (v:Value)
  (hd:∀ x,d=some x->x<c.n) (hv:VR (aj c.M0 E L w) av v):eE c E (cu F d av) L (a.put d v) w:=by
 cases d with
 | none=>exact h
 | some d =>
   have bB:d<a.tmps.size:=by rw [h.nt];exact hd d rfl
   refine ⟨h.h,λs=>?_,by simp [Act.put,h.nt],h.df⟩;simp only [cu,du,b_,Act.put];by_cases hs:d=s
   ·subst hs;simp [bB];exact hv
   ·have hb:Nat.beq d s=false:=by
     cases hq:Nat.beq d s with
     | false=>rfl
     | true=>exact absurd (ie hq) hs
    rw [hb];simp only [py];have:(a.tmps.setIfInBounds d v).getD s undef=a.tmps.getD s undef:=by
     simp [zcQ hs]
    rw [this];exact h.dL s
theorem eE.mono {c:Ctx} {E E':Nat->Option Nat} {F:AF} {L L':List AB} {a:Act} {w w':World} (h:eE c E F L a w) (h':aI c E' L' w')
  (hle:(aj c.M0 E L w).le (aj c.M0 E' L' w')):eE c E' F L' a w' :=
 ⟨h',λs=>VR.mono hle _ _ (h.dL s),h.nt,h.df⟩
theorem eE.vg {c:Ctx} {E:Nat->Option Nat} {F F':AF} {L:List AB} {a:Act} {w:World} (h:eE c E F L a w)
  (hF:∀ s,bt F' s=bt F s∨bt F' s = .d .any):eE c E F' L a w :=
 ⟨h.h,λs=>by rcases hF s with e|e<;>rw [e];exact h.dL s;simp [VR,VD],h.nt,h.df⟩
structure aO (w w':World):Prop where
 os:w'.os=w.os
 tape:w'.tape=w.tape
 output:w'.output=w.output
 size:w.heap.size<=w'.heap.size
 block:∀ b,b<w.heap.size->w'.heap[b]? = w.heap[b]?
theorem lV {w:World} {b:Nat} {cur cur':Array Value} {e:TypeId} {m:Nat×Nat} (hh:w.heap[b]? = some (.cells cur e m)) (hs:cur'.size=cur.size):iG w (w.setRow b cur'):=by
 intro x c1 e1 m1 h1 h2;by_cases hx:x=b
 ·subst hx;rw [hh] at h1;cases h1
  exact ⟨cur',m,setRow_heap w x _ cur' _ _ hh,hs,by rw [hs];exact h2⟩
 ·exact ⟨c1,m1,by rw [setRow_other w b x cur' hx];exact h1,rfl,h2⟩
theorem aO.Sj {w w':World} (h:aO w w'):iG w w':=iG.Dw h.block
theorem aO.refl (w:World):aO w w:=⟨rfl,rfl,rfl,eQ _,λ_ _=>rfl⟩
theorem aO.trans {a b c:World} (h:aO a b) (k:aO b c):aO a c :=
 ⟨k.os.trans h.os,k.tape.trans h.tape,k.output.trans h.output,fS h.size k.size,λx hx=>(k.block x (kO hx h.size)).trans (h.block x hx)⟩
theorem aO.alloc (w:World) (o:Obj):aO w (w.alloc o):=⟨rfl,rfl,rfl,by simp,λb hb=>Below.heap_alloc w o b hb⟩
theorem aO.drew (w:World):aO w w.drew:=⟨rfl,rfl,rfl,eQ _,λ_ _=>rfl⟩
theorem aO.cell {w w':World} (h:aO w w') {a:Addr} {u:Value} (hu:w.cell? a=some u):w'.cell? a=some u:=by
 rw [World.cell?_of_block (w:=w) (h.block a.block (jE hu))];exact hu
def ca (E:Nat->Option Nat) (i:Nat) (eb:Option Nat):Nat->Option Nat:=λj=>if j=i then eb else E j
theorem getElem?_push_lt {α:Type} {L:List α} {x:α} {i:Nat} {y:α} (h:(L++[x])[i]? = some y) (hi:i≠L.length):L[i]? = some y:=by
 rcases qZ i L.length with h1|h1
 ·rw [CK h1] at h;exact h
 ·have:L.length+1<=i:=oM;rw [Ns (by simp;omega)] at h;cases h
theorem ig {c:Ctx} {E:Nat->Option Nat} {L:List AB} {w w':World} (k:aO w w') (ab:AB) (eb:Option Nat)
  (aa_:∀ (i:Nat) (ab:AB),L[i]? = some ab->∀ b∈ab.boxes,b<w.heap.size) (hb:∀ b,eb=some b->w.heap.size<=b) (mG:∀ b∈ab.boxes,w.heap.size<=b):(aj c.M0 E L w).le (aj c.M0 (ca E L.length eb) (L++[ab]) w'):=by
 refine ⟨?_,?_,?_,?_,?_⟩
 ·rintro a u (⟨h1,h2⟩|ht)
  rotate_left
  ·exact .inr (ht.mono k.Sj)
  refine .inl ⟨k.cell h1,?_⟩;rintro (hm|⟨i,bQ,hi,he,hm⟩|⟨i,bQ,hi,hm⟩)
  ·exact h2 (.inl hm)
  ·by_cases eL:i=L.length
   ·subst eL;simp only [ca,Hm] at he;have:=hb _ he;have:=jE h1;omega
   ·simp only [ca,aR eL] at he;exact h2 (.inr (.inl ⟨i,bQ,getElem?_push_lt hi eL,he,hm⟩))
  ·by_cases eL:i=L.length
   ·subst eL;simp at hi;subst hi;have:=mG _ hm;have:=jE h1;omega
   ·exact h2 (.inr (.inr ⟨i,bQ,getElem?_push_lt hi eL,hm⟩))
 ·rintro i b ⟨bQ,h1,h2,h3⟩;have bB:i<L.length:=(dW.1 h1).1;exact ⟨bQ,by rw [CK bB];exact h1,h2,by simp only [ca];rw [aR oM];exact h3⟩
 ·rintro i v ⟨bQ,h1,h2⟩;have bB:i<L.length:=(dW.1 h1).1;refine ⟨bQ,by rw [CK bB];exact h1,?_⟩
  cases bQ with
  | cells cs =>
    simp only [bj,ca] at h2 ⊢;rw [aR (oM:i≠L.length)];exact h2
  | map es=>exact h2
  | cK b cs=>exact h2
  | obj o=>exact h2
  | qJ o n cap =>
    simp only [bj,ca] at h2 ⊢;rw [aR (oM:i≠L.length)];exact h2
  | dead=>exact h2
  | aN lo n ok=>exact h2.elim
  | row e n xs sh =>
    simp only [bj,ca] at h2 ⊢;rw [aR (oM:i≠L.length)]
    cases hE:E i with
    | none=>rw [hE] at h2;exact h2
    | some b =>
      rw [hE] at h2;obtain ⟨cap,cur,h3,h4,h5⟩:=h2;exact ⟨cap,cur,h3,by rw [k.block b (ud.1 h4).1];exact h4,h5⟩
 ·rintro i j o v ⟨bQ,h1,h2⟩;have bB:i<L.length:=(dW.1 h1).1;refine ⟨bQ,by rw [CK bB];exact h1,?_⟩
  cases bQ with
  | cells cs=>exact h2
  | map es=>exact h2
  | cK b cs=>exact h2
  | obj o=>exact h2
  | qJ o n cap=>exact h2
  | dead=>exact h2
  | aN lo n ok=>exact h2.elim
  | row e n xs sh =>
    simp only [mF,ca] at h2 ⊢;rw [aR (oM:i≠L.length)];exact h2
 ·rintro i x v ⟨bQ,h1,h2⟩;have bB:i<L.length:=(dW.1 h1).1;refine ⟨bQ,by rw [CK bB];exact h1,fV (λb kg=>k.block b ?_) h2⟩;exact aa_ _ _ h1 b kg
theorem xi.mono {rd jv:Addr->Value->Prop} (h:∀ a u,rd a u->jv a u) {k:KV} {v:Value} (x:xi rd k v):xi jv k v:=by
 cases k with
 | one y=>exact ⟨x.1,VD.mono h y v x.2⟩
 | agg cs=>obtain ⟨us,h1,h2⟩:=x;exact ⟨us,h1,cR.mono h h2⟩
theorem rj.mono {rd jv:Addr->Value->Prop} (h:∀ a u,rd a u->jv a u) {w w':World} {b:Nat} {cs:List DV} (hw:w'.heap[b]? = w.heap[b]?) (x:rj rd w b cs):rj jv w' b cs:=by
 obtain ⟨cur,e,h1,h2⟩:=x;exact ⟨cur,e,by rw [hw];exact h1,cR.mono h h2⟩
theorem kf.mono {rd jv:Addr->Value->Prop} (h:∀ a u,rd a u->jv a u) {w w':World}:∀ {es:List (KV×MV)} {us:List MapEntry},(∀ b∈bg es,w'.heap[b]? = w.heap[b]?)->kf rd w es us->kf jv w' es us
 | [],us,_,x=>x
 | (k,m) :: r,us,hw,x=>by
   simp only [kf] at x ⊢;obtain ⟨u,dt,h1,h2,h3,h4⟩:=x
   cases m with
   | v y=>exact ⟨u,dt,h1,xi.mono h h2,xi.mono h h3,kf.mono h (λb hb=>hw b (by simpa [bg] using hb)) h4⟩
   | box b cs=>exact ⟨u,dt,h1,xi.mono h h2,⟨h3.1,rj.mono h (hw b (by simp [bg])) h3.2⟩,kf.mono h (λb hb=>hw b (by simp [bg,hb])) h4⟩
theorem BR.mono {R R':RC} (hle:R.le R') {w w':World} {eb:Option Nat} {ab:AB} (h:BR R w eb ab)
  (hw:∀ b,eb=some b->ab.live=true->w'.heap[b]? = w.heap[b]?) (mG:∀ b∈ab.boxes,w'.heap[b]? = w.heap[b]?):BR R' w' eb ab:=by
 cases ab with
 | map es =>
   obtain ⟨b,eR,clock,h1,h2,h3,h4,h5⟩:=h;exact ⟨b,eR,clock,h1,by rw [hw b h1 rfl];exact h2,kf.mono hle.rd mG h3,h4,h5⟩
 | cK b cs=>exact rj.mono hle.rd (mG b (by simp [AB.boxes])) h
 | obj o =>
   obtain ⟨b,h1,h2⟩:=h;exact ⟨b,h1,by rw [hw b h1 rfl];exact h2⟩
 | qJ o n cap =>
   obtain ⟨b,h1,h2⟩:=h;exact ⟨b,h1,by rw [hw b h1 rfl];exact h2⟩
 | cells cs =>
   obtain ⟨b,cur,e,h1,h2,h3⟩:=h;exact ⟨b,cur,e,h1,by rw [hw b h1 rfl];exact h2,eK.mono hle _ _ h3⟩
 | row e n xs sh =>
   obtain ⟨h1,h2,h3⟩:=h;refine ⟨h1,h2,?_⟩
   cases eb with
   | none=>exact h3
   | some b =>
     obtain ⟨cap,cur,h4,h5,h6,h7,h8⟩:=h3;exact ⟨cap,cur,by rw [hw b rfl rfl];exact h4,h5,h6,h7,cR.mono hle.rd h8⟩
 | dead=>trivial
 | aN lo n ok =>
   intro b h1 h2;rw [mG b (by simp only [AB.boxes,Pv];exact ⟨h1,h2⟩)];exact h b h1 h2
theorem aI.extend {c:Ctx} (hc:c.wf) {E:Nat->Option Nat} {L:List AB} {w w':World} (h:aI c E L w) (k:aO w w') (ab:AB) (eb:Option Nat)
  (hb:∀ b,eb=some b->w.heap.size<=b) (mG:∀ b∈ab.boxes,w.heap.size<=b) (ZL:ab.boxes.Nodup) (hbe:∀ b∈ab.boxes,eb≠some b)
  (fy:BR (aj c.M0 (ca E L.length eb) (L++[ab]) w') w' eb ab):aI c (ca E L.length eb) (L++[ab]) w':=by
 have hle:=ig (c:=c) (E:=E) (L:=L) k ab eb (λi ab hi b hb=>h.blt hi hb) hb mG;refine ⟨k.os.trans h.os,k.tape.trans h.tape,k.output.trans h.output,fS h.size k.size,?_,?_,?_,?_,?_,?_⟩
 ·intro b hp;rw [k.block b (kO (hc.low b hp) h.size)];exact h.gS b hp
 ·intro i bQ hi;by_cases eL:i=L.length
  ·subst eL;simp at hi;subst hi;simp only [ca,Hm];exact fy
  ·have xe:=getElem?_push_lt hi eL;simp only [ca,aR eL];exact BR.mono hle (h.fQ i bQ xe) (λb he hl=>k.block b (h.lt xe hl he)) λb kg=>k.block b (h.blt xe kg)
 ·intro i bQ b hi hl he;by_cases eL:i=L.length
  ·subst eL;simp only [ca,Hm] at he;intro hp;have:=hb b he;have:=hc.low b hp;have:=h.size;omega
  ·simp only [ca,aR eL] at he;exact h.low i bQ b (getElem?_push_lt hi eL) hl he
 ·intro i j iS fp b hi hj sy kj Fg pz;by_cases eL:i=L.length<;>by_cases dM:j=L.length
  ·omega
  ·subst eL;simp only [ca,Hm] at Fg;simp only [ca,aR dM] at pz;have:=hb b Fg;have:=h.lt (getElem?_push_lt hj dM) kj pz;omega
  ·subst dM;simp only [ca,Hm] at pz;simp only [ca,aR eL] at Fg;have:=hb b pz;have:=h.lt (getElem?_push_lt hi eL) sy Fg;omega
  ·simp only [ca,aR eL] at Fg;simp only [ca,aR dM] at pz;exact h.inj i j iS fp b (getElem?_push_lt hi eL) (getElem?_push_lt hj dM) sy kj Fg pz
 ·exact h.q_.trans hle
 ·refine ⟨?_,?_,?_,?_⟩
  ·intro i bQ b hi kg;by_cases eL:i=L.length
   ·subst eL;simp at hi;subst hi;intro hp;have:=mG b kg;have:=hc.low b hp;have:=h.size;omega
   ·exact h.bx.low i bQ b (getElem?_push_lt hi eL) kg
  ·intro i j iS fp b hi kg hj hl he;by_cases eL:i=L.length<;>by_cases dM:j=L.length
   ·subst eL dM;simp at hi hj;subst hi hj;simp only [ca,Hm] at he;exact hbe b kg he
   ·subst eL;simp at hi;subst hi;simp only [ca,aR dM] at he;have:=mG b kg;have:=h.lt (getElem?_push_lt hj dM) hl he;omega
   ·subst dM;simp only [ca,Hm] at he;have:=hb b he;have:=h.blt (getElem?_push_lt hi eL) kg;omega
   ·simp only [ca,aR dM] at he;exact h.bx.own i j iS fp b (getElem?_push_lt hi eL) kg (getElem?_push_lt hj dM) hl he
  ·intro i bQ hi;by_cases eL:i=L.length
   ·subst eL;simp at hi;subst hi;exact ZL
   ·exact h.bx.nd i bQ (getElem?_push_lt hi eL)
  ·intro i j iS fp b hi hj eS iR;by_cases eL:i=L.length<;>by_cases dM:j=L.length
   ·omega
   ·subst eL;simp at hi;subst hi;have:=mG b eS;have:=h.blt (getElem?_push_lt hj dM) iR;omega
   ·subst dM;simp at hj;subst hj;have:=mG b iR;have:=h.blt (getElem?_push_lt hi eL) eS;omega
   ·exact h.bx.dj i j iS fp b (getElem?_push_lt hi eL) (getElem?_push_lt hj dM) eS iR
theorem iI {c:Ctx} {E:Nat->Option Nat} {L:List AB} {w w':World} (aa_:∀ (i:Nat) (ab:AB),L[i]? = some ab->∀ b∈ab.boxes,b<w.heap.size) (k:aO w w'):(aj c.M0 E L w).le (aj c.M0 E L w'):=by
 refine ⟨?_,λ_ _ h=>h,?_,λ_ _ _ _ h=>h,λi x v ⟨ab,h1,h2⟩=>⟨ab,h1,fV (λb hb=>k.block b (aa_ i ab h1 b hb)) h2⟩⟩
 ·exact ug rfl k.Sj λa u h1 h2=>⟨k.cell h1,h2⟩
 ·rintro i v ⟨bQ,h1,h2⟩;refine ⟨bQ,h1,?_⟩
  cases bQ with
  | cells cs=>exact h2
  | map es=>exact h2
  | cK b cs=>exact h2
  | obj o=>exact h2
  | qJ o n cap=>exact h2
  | dead=>exact h2
  | aN lo n ok=>exact h2.elim
  | row e n xs sh =>
    simp only [bj] at h2 ⊢
    cases hE:E i with
    | none=>rw [hE] at h2;exact h2
    | some b =>
      rw [hE] at h2;obtain ⟨cap,cur,h3,h4,h5⟩:=h2;exact ⟨cap,cur,h3,by rw [k.block b (ud.1 h4).1];exact h4,h5⟩
theorem aI.keeps {c:Ctx} (hc:c.wf) {E:Nat->Option Nat} {L:List AB} {w w':World} (h:aI c E L w) (k:aO w w'):aI c E L w' :=
 ⟨k.os.trans h.os,k.tape.trans h.tape,k.output.trans h.output,fS h.size k.size,
  λb hp=>by rw [k.block b (kO (hc.low b hp) h.size)];exact h.gS b hp,
  λi ab hi=>BR.mono (iI h.bl k) (h.fQ i ab hi) (λb he hl=>k.block b (h.lt hi hl he)) λb hb=>k.block b (h.blt hi hb),h.low,h.inj,h.q_.trans (iI h.bl k),h.bx⟩
theorem eE.keeps {c:Ctx} (hc:c.wf) {E:Nat->Option Nat} {F:AF} {L:List AB} {a:Act} {w w':World} (h:eE c E F L a w) (k:aO w w'):eE c E F L a w' :=
 h.mono (h.h.keeps hc k) (iI h.h.bl k)
section
variable {α:Type} {r:α->Value->Prop}
theorem cf:∀ {xs ys:List α} {us vs:List Value},Cs r xs us->Cs r ys vs->Cs r (xs++ys) (us++vs)
 | [],ys,us,vs,h,k=>by
   simp only [Cs] at h;subst h;simpa using k
 | x :: xs,ys,us,vs,h,k=>by
   simp only [Cs] at h;obtain ⟨u,dt,rfl,h0,h1,h2⟩:=h;simp only [KX,Cs];exact ⟨u,dt++vs,rfl,h0,h1,cf h2 k⟩
theorem ed:∀ {xs:List α} {us:List Value},Cs r xs us->us.length=xs.length
 | [],us,h=>by simp only [Cs] at h;subst h;rfl
 | x :: xs,us,h=>by
   simp only [Cs] at h;obtain ⟨u,dt,rfl,h0,h1,h2⟩:=h;simp [ed h2]
theorem KZ:∀ {xs:List α} {us:List Value},Cs r xs us->∀ {i:Nat} {x:α},xs[i]? = some x->∃ u,us[i]? = some u/\u.oneCell'=true/\r x u
 | [],us,h,i,x,hx=>by simp at hx
 | y :: xs,us,h,i,x,hx=>by
   simp only [Cs] at h;obtain ⟨u,dt,rfl,h0,h1,h2⟩:=h
   cases i with
   | zero=>simp at hx;subst hx;exact ⟨u,by simp,h0,h1⟩
   | succ i=>simp only [ue] at hx ⊢;exact KZ h2 hx
theorem gJ:∀ {xs:List α} {us:List Value} (n:Nat),Cs r xs us->Cs r (xs.take n) (us.take n)
 | xs,us,0,h=>by simp [Cs]
 | [],us,n+1,h=>by simp only [Cs] at h;subst h;simp [Cs]
 | y :: xs,us,n+1,h=>by
   simp only [Cs] at h;obtain ⟨u,dt,rfl,h0,h1,h2⟩:=h;simp only [ZG,Cs];exact ⟨u,dt.take n,rfl,h0,h1,gJ n h2⟩
theorem kP:∀ {xs:List α} {us:List Value} (n:Nat),Cs r xs us->Cs r (xs.drop n) (us.drop n)
 | xs,us,0,h=>by simpa using h
 | [],us,n+1,h=>by simp only [Cs] at h;subst h;simp [Cs]
 | y :: xs,us,n+1,h=>by
   simp only [Cs] at h;obtain ⟨u,dt,rfl,h0,h1,h2⟩:=h;simpa using kP n h2
theorem pH {xs:List α} {us:List Value} (h:Cs r xs us):∀ u∈us,u.oneCell'=true:=by
 intro u hu;obtain ⟨i,hi⟩:=R8.1 hu;have bB:i<us.length:=(dW.1 hi).1;rw [ed h] at bB;obtain ⟨u',h1,h2,_⟩:=KZ h (ff bB);rw [hi] at h1;cases h1;exact h2
theorem ZM:∀ {xs:List α} {us:List Value},us.length=xs.length->(∀ (i:Nat) (x:α) (u:Value),xs[i]? = some x->us[i]? = some u->u.oneCell'=true/\r x u)->Cs r xs us
 | [],us,hl,_=>by simp only [Cs];exact oy hl
 | x :: xs,[],hl,_=>by simp at hl
 | x :: xs,u :: us,hl,h=>by
   simp only [Cs];have h0:=h 0 x u (by simp) (by simp);exact ⟨u,us,rfl,h0.1,h0.2,ZM (by simpa using hl) λi y v hy hv=>h (i+1) y v (by simpa using hy) (by simpa using hv)⟩
end
theorem pI {R:RC} {xs ys:List AV} {us vs:List Value} (h:eK R xs us) (k:eK R ys vs):eK R (xs++ys) (us++vs):=fZ.2 (cf (fZ.1 h) (fZ.1 k))
theorem cH {R:RC} {xs:List AV} {us:List Value} (h:eK R xs us):us.length=xs.length:=ed (fZ.1 h)
theorem Fh {R:RC} {xs:List AV} {us:List Value} (h:eK R xs us) {i:Nat} {x:AV} (hx:xs[i]? = some x):∃ u,us[i]? = some u/\u.oneCell'=true/\VR R x u:=KZ (fZ.1 h) hx
theorem vh {R:RC} {xs:List AV} {us:List Value} (n:Nat) (h:eK R xs us):eK R (xs.take n) (us.take n):=fZ.2 (gJ n (fZ.1 h))
theorem vi {R:RC} {xs:List AV} {us:List Value} (n:Nat) (h:eK R xs us):eK R (xs.drop n) (us.drop n):=fZ.2 (kP n (fZ.1 h))
theorem Nx {R:RC} {xs:List AV} {us:List Value} (h:eK R xs us):∀ u∈us,u.oneCell'=true:=pH (fZ.1 h)
theorem aba {R:RC} {xs:List AV} {us:List Value} (hl:us.length=xs.length) (h:∀ (i:Nat) (x:AV) (u:Value),xs[i]? = some x->us[i]? = some u->u.oneCell'=true/\VR R x u):eK R xs us:=fZ.2 (ZM hl h)
theorem tD {R:RC}:∀ {xs:List DV} {us:List Value},eK R (xs.map AV.d) us↔cR R.rd xs us
 | [],us=>by simp [eK,cR,Cs]
 | x :: xs,us=>by
   simp only [Dv,eK,cR,Cs];constructor<;>(rintro ⟨u,dt,h1,h2,h3,h4⟩;exact ⟨u,dt,h1,h2,by simpa [VR] using h3,by first|exact tD.1 h4|exact tD.2 h4⟩)
theorem jF (a:Addr) (h:a.spot=none):(⟨a.block,a.off,none⟩:Addr)=a:=by cases a;simp_all
theorem add_lit (a:Addr) (h:a.spot=none) (n:Nat):a.add n=⟨a.block,a.off+n,none⟩:=by
 unfold Addr.add;split
 ·rename_i h0;subst h0;cases a;simp_all
 ·rfl
theorem K0 {rd jv:Addr->Value->Prop} (hle:∀ a u,rd a u->jv a u):∀ {xs:List DV} {us:List Value} {a:Addr},cR rd xs us->a.spot=none ->
  (∀ j u,us[j]? = some u->jv ⟨a.block,a.off+j,none⟩ u)->pF jv xs a
 | [],us,a,h,ha,k=>by simp [pF]
 | x :: xs,us,a,h,ha,k=>by
   simp only [cR,Cs] at h;obtain ⟨u,dt,rfl,h0,h1,h2⟩:=h;simp only [pF];refine ⟨⟨u,?_,h0,VD.mono hle _ _ h1⟩,K0 hle h2 rfl ?_⟩
   ·have:=k 0 u (by simp);simp only [RJ] at this
    rwa [jF a ha] at this
   ·intro j v hj;have:=k (j+1) v (by simpa using hj);simpa [ZJ,ZK 1 j] using this
theorem uh {rd jv:Addr->Value->Prop} (hle:∀ a u,rd a u->jv a u) (n:Nat):∀ {xs:List (List DV)} {us:List Value} {a:Addr},cR rd xs.flatten us->(∀ cs∈xs,cs.length=n)->a.spot=none ->
  (∀ j u,us[j]? = some u->jv ⟨a.block,a.off+j,none⟩ u)->jC jv n xs a
 | [],us,a,h,hn,ha,k=>by simp [jC]
 | cs :: xs,us,a,h,hn,ha,k=>by
   have ck:cs.length=n:=hn cs (by simp);simp only [va] at h;have h1:=gJ n h;have h2:=kP n h;rw [<-ck,ze2] at h1;rw [<-ck,List.drop_left] at h2;simp only [jC];refine ⟨ck,K0 hle h1 ha (λj u hj=>?_),uh hle n h2 (λc hc=>hn c (by simp [hc])) rfl (λj u hj=>?_)⟩
   ·rw [nX] at hj;split at hj
    ·exact k j u hj
    ·cases hj
   ·rw [Dt] at hj;have:=k _ u hj;rw [ck] at this;simpa [ZJ] using this
theorem vj {rd:Addr->Value->Prop}:∀ {xs:List DV} {a:Addr},pF rd xs a->a.spot=none->∃ us,cR rd xs us/\∀ (j:Nat) (u:Value),us[j]? = some u->rd ⟨a.block,a.off+j,none⟩ u
 | [],a,h,ha=>⟨[],by simp [cR,Cs],by simp⟩
 | x :: xs,a,h,ha=>by
   simp only [pF] at h;obtain ⟨⟨u,h1,h0,h2⟩,h3⟩:=h;obtain ⟨us,k1,k2⟩:=vj h3 rfl;refine ⟨u :: us,by simp only [cR,Cs];exact ⟨u,us,rfl,h0,h2,k1⟩,λj v hj=>?_⟩
   cases j with
   | zero=>simp at hj;subst hj;simpa [jF a ha] using h1
   | succ j =>
     have:=k2 j v (by simpa using hj);simpa [ZJ,ZK 1 j] using this
theorem rk {rd:Addr->Value->Prop} (n:Nat):∀ {xs:List (List DV)} {a:Addr},jC rd n xs a->a.spot=none->∃ us,cR rd xs.flatten us/\us.length=xs.length * n/\∀ (j:Nat) (u:Value),us[j]? = some u->rd ⟨a.block,a.off+j,none⟩ u
 | [],a,h,ha=>⟨[],by simp [cR,Cs],by simp,by simp⟩
 | cs :: xs,a,h,ha=>by
   simp only [jC] at h;obtain ⟨hn,h1,h2⟩:=h;obtain ⟨us,k1,k2⟩:=vj h1 ha;obtain ⟨vs,l1,l0,l2⟩:=rk n h2 rfl;have hl:us.length=n:=by rw [ed k1,hn]
   refine ⟨us++vs,by rw [va];exact cf k1 l1,by simp [l0,hl,qu,ZK],λj v hj=>?_⟩;rcases qZ j us.length with bB|rl
   ·rw [CK bB] at hj;exact k2 j v hj
   ·rw [Ww rl] at hj;have:=l2 _ v hj;have e:a.off+n+(j - us.length)=a.off+j:=oM;rw [e] at this;exact this
theorem pJ {rd:Addr->Value->Prop} (n:Nat):∀ {xs:List (List DV)} {a:Addr},jC rd n xs a->a.spot=none->∀ {i:Nat} {cs:List DV},xs[i]? = some cs->cs.length=n/\pF rd cs ⟨a.block,a.off+i * n,none⟩
 | [],a,h,ha,i,cs,hi=>by simp at hi
 | c :: xs,a,h,ha,i,cs,hi=>by
   simp only [jC] at h;obtain ⟨hn,h1,h2⟩:=h
   cases i with
   | zero=>simp at hi;subst hi;refine ⟨hn,?_⟩;simpa [jF a ha] using h1
   | succ i =>
     simp only [ue] at hi;have:=pJ n h2 rfl hi;refine ⟨this.1,?_⟩;have e:a.off+n+i * n=a.off+(i+1) * n:=by rw [qu];omega
     simpa [e] using this.2
structure vk (b:Nat) (w w':World):Prop where
 os:w'.os=w.os
 tape:w'.tape=w.tape
 output:w'.output=w.output
 size:w'.heap.size=w.heap.size
 block:∀ k,k≠b->w'.heap[k]? = w.heap[k]?
theorem vk.setRow (w:World) (b:Nat) (cs:Array Value):vk b w (w.setRow b cs) :=
 ⟨rfl,rfl,rfl,by simp [World.setRow],λk hk=>setRow_other w b k cs hk⟩
structure mH (eb:Option Nat) (w w':World):Prop where
 os:w'.os=w.os
 tape:w'.tape=w.tape
 output:w'.output=w.output
 size:w'.heap.size=w.heap.size
 block:∀ k,eb≠some k->w'.heap[k]? = w.heap[k]?
 CQ:iG w w'
theorem mH.refl (eb:Option Nat) (w:World):mH eb w w:=⟨rfl,rfl,rfl,rfl,λ_ _=>rfl,.refl w⟩
theorem vk.toE {b:Nat} {w w':World} (h:vk b w w') (hl:iG w w'):mH (some b) w w':=⟨h.os,h.tape,h.output,h.size,λk hk=>h.block k (λe=>hk (by rw [e])),hl⟩
theorem my {w:World} {a:Addr} {u:Value} (h:w.cell? a=some u):a.spot=none:=by
 unfold World.cell? at h;split at h
 ·split at h
  ·cases h
  ·rename_i hs;cases gK:a.spot with
   | none=>rfl
   | some x=>simp [gK] at hs
 ·cases h
theorem al {α:Type} {L:List α} {i j:Nat} {x:α} (h:j≠i):(L.set i x)[j]? = L[j]? := by
 rw [zeU];simp [Ne.symm h]
theorem aD {α:Type} {L:List α} {i:Nat} {x y:α} (h:L[i]? = some y):(L.set i x)[i]? = some x:=by
 have:=(dW.1 h).1;rw [zeU];simp [this]
theorem rm {c:Ctx} {E:Nat->Option Nat} {L:List AB} {w w':World} (h:aI c E L w) {i:Nat} {ab bQ:AB} (hi:L[i]? = some ab) (hl:ab.live=true)
  (k:mH (E i) w w') (Hs:∀ o,bQ.mut o->ab.mut o)
  (ga:∀ b o u,E i=some b->¬ab.mut o->w.cell? ⟨b,o,none⟩=some u->w'.cell? ⟨b,o,none⟩=some u)
  (tE:bQ.gB=ab.gB) (rn:∀ v,bj E w i v ab->bj E w' i v bQ) (hap:∀ j o v,mF E i j o v ab->mF E i j o v bQ) (mG:∀ b∈bQ.boxes,b∈ab.boxes) :
  (aj c.M0 E L w).le (aj c.M0 E (L.set i bQ) w'):=by
 have Fi:∀ j cN b,j≠i->L[j]? = some cN->cN.live=true->E j=some b->w'.heap[b]? = w.heap[b]? := by
  intro j cN b hj hLj hlj hEj;refine k.block b ?_;intro he;exact hj (h.inj j i cN ab b hLj hi hlj hl hEj he)
 refine ⟨?_,?_,?_,?_,?_⟩
 ·refine ug rfl k.CQ ?_;rintro a u h1 h2;have gK:=my h1;constructor
  ·by_cases he:E i=some a.block
   ·have:=ga a.block a.off u he (λhm=>h2 (.inr (.inl ⟨i,ab,hi,he,hm⟩))) (by rw [jF a gK];exact h1)
    rwa [jF a gK] at this
   ·rw [World.cell?_of_block (w:=w) (k.block a.block he)];exact h1
  ·rintro (hm|⟨j,cN,hj,he,hm⟩|⟨j,cN,hj,hm⟩)
   ·exact h2 (.inl hm)
   ·by_cases cA:j=i
    ·subst cA;rw [aD hi] at hj;cases hj
     exact h2 (.inr (.inl ⟨j,ab,hi,he,Hs _ hm⟩))
    ·rw [al cA] at hj;exact h2 (.inr (.inl ⟨j,cN,hj,he,hm⟩))
   ·by_cases cA:j=i
    ·subst cA;rw [aD hi] at hj;cases hj
     exact h2 (.inr (.inr ⟨j,ab,hi,mG _ hm⟩))
    ·rw [al cA] at hj;exact h2 (.inr (.inr ⟨j,cN,hj,hm⟩))
 ·rintro j b ⟨cN,h1,h2,h3⟩;by_cases cA:j=i
  ·subst cA;rw [hi] at h1;cases h1
   exact ⟨bQ,aD hi,by rw [tE];exact h2,h3⟩
  ·exact ⟨cN,by rw [al cA];exact h1,h2,h3⟩
 ·rintro j v ⟨cN,h1,h2⟩;by_cases cA:j=i
  ·subst cA;rw [hi] at h1;cases h1
   exact ⟨bQ,aD hi,rn v h2⟩
  ·refine ⟨cN,by rw [al cA];exact h1,?_⟩
   cases cN with
   | cells cs=>exact h2
   | map es=>exact h2
   | cK b cs=>exact h2
   | obj o=>exact h2
   | qJ o n cap=>exact h2
   | dead=>exact h2
   | aN lo n ok=>exact h2.elim
   | row e n xs sh =>
     simp only [bj] at h2 ⊢
     cases hE:E j with
     | none=>rw [hE] at h2;exact h2
     | some b =>
       rw [hE] at h2;obtain ⟨cap,cur,h3,h4,h5⟩:=h2;exact ⟨cap,cur,h3,by rw [Fi j _ b cA h1 rfl hE];exact h4,h5⟩
 ·rintro j x o v ⟨cN,h1,h2⟩;by_cases cA:j=i
  ·subst cA;rw [hi] at h1;cases h1
   exact ⟨bQ,aD hi,hap x o v h2⟩
  ·exact ⟨cN,by rw [al cA];exact h1,h2⟩
 ·rintro j x v ⟨cN,h1,h2⟩;have cA:j≠i:=by
   rintro rfl;rw [hi] at h1;cases h1
   obtain ⟨_,_,_,rfl⟩:=pG h2
   cases hl
  exact ⟨cN,by rw [al cA];exact h1,fV (λb hb=>k.block b λhe=>h.bx.own j i cN ab b h1 hb hi hl he) h2⟩
theorem Sf.set {P0:Nat->Prop} {E:Nat->Option Nat} {L:List AB} (h:Sf P0 E L) {i:Nat} {ab bQ:AB} (hi:L[i]? = some ab) (hl:ab.live=true) (mG:bQ.boxes=ab.boxes):Sf P0 E (L.set i bQ):=by
 have look:∀ (j:Nat) (cN:AB),(L.set i bQ)[j]? = some cN->∃ cU,L[j]? = some cU/\cN.boxes=cU.boxes/\(cN.live=true->cU.live=true):=by
  intro j cN hj;by_cases cA:j=i
  ·subst cA;rw [aD hi] at hj;cases hj
   exact ⟨ab,hi,mG,λ_=>hl⟩
  ·rw [al cA] at hj;exact ⟨cN,hj,rfl,id⟩
 refine ⟨?_,?_,?_,?_⟩
 ·intro j cN b hj hb;obtain ⟨cU,h1,h2,h3⟩:=look j cN hj;rw [h2] at hb;exact h.low j cU b h1 hb
 ·intro j k cN abk b hj hb hk pA he;obtain ⟨cU,h1,h2,h3⟩:=look j cN hj;obtain ⟨iS,k1,k2,k3⟩:=look k abk hk;rw [h2] at hb;exact h.own j k cU iS b h1 hb k1 (k3 pA) he
 ·intro j cN hj;obtain ⟨cU,h1,h2,h3⟩:=look j cN hj;rw [h2];exact h.nd j cU h1
 ·intro j k cN abk b hj hk hb kg;obtain ⟨cU,h1,h2,h3⟩:=look j cN hj;obtain ⟨iS,k1,k2,k3⟩:=look k abk hk;rw [h2] at hb;rw [k2] at kg;exact h.dj j k cU iS b h1 k1 hb kg
theorem aI.Ht {c:Ctx} {E:Nat->Option Nat} {L:List AB} {w w':World} (h:aI c E L w) {i:Nat} {ab bQ:AB} (hi:L[i]? = some ab) (hl:ab.live=true)
  (k:mH (E i) w w') (hle:(aj c.M0 E L w).le (aj c.M0 E (L.set i bQ) w')) (tE:bQ.gB=ab.gB)
  (fy:BR (aj c.M0 E (L.set i bQ) w') w' (E i) bQ) (mG:bQ.boxes=ab.boxes):aI c E (L.set i bQ) w':=by
 refine ⟨k.os.trans h.os,k.tape.trans h.tape,k.output.trans h.output,by rw [k.size];exact h.size,?_,?_,?_,?_,?_,h.bx.set hi hl mG⟩
 ·intro b hp;rw [k.block b (λhe=>h.low i ab b hi hl he hp)];exact h.gS b hp
 ·intro j cN hj;by_cases cA:j=i
  ·subst cA;rw [aD hi] at hj;cases hj
   exact fy
  ·rw [al cA] at hj;refine BR.mono hle (h.fQ j cN hj) (λb he hlj=>k.block b ?_) λb hb=>k.block b λW0=>h.bx.own j i cN ab b hj hb hi hl W0;intro W0;exact cA (h.inj j i cN ab b hj hi hlj hl he W0)
 ·intro j cN b hj hlj he;by_cases cA:j=i
  ·subst cA;exact h.low j ab b hi hl he
  ·rw [al cA] at hj;exact h.low j cN b hj hlj he
 ·intro j1 j2 iS fp b h1 h2 l1 l2 e1 e2;by_cases pK:j1=i<;>by_cases lA:j2=i
  ·omega
  ·subst pK;rw [al lA] at h2;exact h.inj j1 j2 ab fp b hi h2 hl l2 e1 e2
  ·subst lA;rw [al pK] at h1;exact h.inj j1 j2 iS ab b h1 hi l1 hl e1 e2
  ·rw [al pK] at h1;rw [al lA] at h2;exact h.inj j1 j2 iS fp b h1 h2 l1 l2 e1 e2
 ·exact h.q_.trans hle
theorem abc {c:Ctx} (hc:c.wf) {E:Nat->Option Nat} {L:List AB} {w:World} (h:aI c E L w) {i:Nat} {ab:AB} (hi:L[i]? = some ab) (hl:ab.live=true) {b:Nat} (hb:E i=some b)
  {cur:Array Value} {e:TypeId} {n cap:Nat} (hh:w.heap[b]? = some (.cells cur e (0,0))) (hs:cur.size=cap * n) (hn:RN e n):Tk c.M0.s w ⟨b,0,some n⟩ (.slice (some ⟨b,0,none⟩) 0 cap):=by
 refine ⟨n,rfl,λs0 ui=>⟨?_,cur,e,(0,0),cap,rfl,hh,Hq _,hn.2,Nat.zero_mod n,by show 0+cap * n<=cur.size;omega⟩⟩;rcases qZ b s0 with h1|h1
 ·exact absurd (hc.st s0 ui b h1) (h.low i ab b hi hl hb)
 ·exact h1
theorem aI.close {c:Ctx} (hc:c.wf) {E:Nat->Option Nat} {L:List AB} {w:World} (h:aI c E L w) {i e n:Nat} {xs:List (List DV)} {sh:Bool} (hi:L[i]? = some (.row e n xs sh)) :
  aI c E (L.set i (.row e n xs true)) w/\(aj c.M0 E L w).le (aj c.M0 E (L.set i (.row e n xs true)) w) /\
  ∀ v,VR (aj c.M0 E L w) (.arr i) v->VR (aj c.M0 E (L.set i (.row e n xs true)) w) (.d (.sl n xs)) v:=by
 have hle:(aj c.M0 E L w).le (aj c.M0 E (L.set i (.row e n xs true)) w) :=
  rm h hi rfl (.refl _ _) (λo hm hs=>hm rfl) (λ_ _ _ _ _ h=>h) rfl (λv hv=>hv) (λ_ _ _ hv=>hv) (λ_ hb=>hb)
 have fy:=h.fQ i _ hi;have ahX:BR (aj c.M0 E (L.set i (.row e n xs true)) w) w (E i) (.row e n xs true) :=
  BR.mono (ab := .row e n xs sh) hle fy (λ_ _ _=>rfl) λ_ _=>rfl
 refine ⟨h.Ht hi rfl (.refl _ _) hle rfl ahX rfl,hle,?_⟩;intro v hv;simp only [VR,VD] at hv ⊢;obtain ⟨ab,bC,hrel⟩:=hv;rw [hi] at bC;cases bC
 obtain ⟨hn,hlen,gC⟩:=fy;simp only [bj] at hrel;refine ⟨hn.1,?_⟩
 cases hE:E i with
 | none =>
   rw [hE] at hrel gC;simp only at hrel gC;subst gC;exact ⟨none,0,by simpa using hrel,by simp,by simp [maxLen],λ_=>rfl,(λa' h=>by cases h)⟩
 | some b =>
   rw [hE] at hrel gC;obtain ⟨cap,cur,hv,hh,hs⟩:=hrel;obtain ⟨ek,cur',nY,bP,eX,jG,W4⟩:=gC;rw [hh] at nY;cases nY
   have gT:cap=ek:=zdB hn.1 (hs.symm.trans bP);subst gT;refine ⟨some ⟨b,0,none⟩,cap,hv,eX,jG,(λh=>by cases h),λa' ha=>?_⟩
   cases ha
   refine ⟨.inr rfl,λ_ => .inr (abc hc h hi rfl hE hh hs hn),uh hle.rd n W4 hlen rfl ?_⟩;intro j u hj;rw [nX] at hj;split at hj
   ·rename_i bB;refine .inl ⟨?_,?_⟩
    ·rw [cell_of_row w b _ cur e (0,0) hh];simpa using hj
    ·rintro (hm|⟨k,abk,hk,hek,hm⟩|⟨k,abk,hk,hm⟩)
     ·exact h.low i _ b hi rfl hE (hc.sub _ _ hm)
     ·by_cases Ha:k=i
      ·subst Ha;rw [aD hi] at hk;cases hk
       have:=hm rfl;simp at this;omega
      ·rw [al Ha] at hk;exact Ha (h.inj k i abk _ b hk hi (AB.Ar hm) rfl hek hE)
     ·by_cases Ha:k=i
      ·subst Ha;rw [aD hi] at hk;cases hk
       simp [AB.boxes] at hm
      ·rw [al Ha] at hk;exact h.bx.own k i abk _ b hk hm hi rfl hE
   ·cases hj
theorem aI.store {c:Ctx} {E:Nat->Option Nat} {L:List AB} {w:World} (h:aI c E L w) {i:Nat} {cs cs':List AV} (hi:L[i]? = some (.cells cs)) {b:Nat} (hb:E i=some b)
  {cur cur':Array Value} {e:TypeId} (hh:w.heap[b]? = some (.cells cur e (0,0))) (hv:eK (aj c.M0 E L w) cs' cur'.toList) (da:cs'.length=cs.length) :
  aI c E (L.set i (.cells cs')) (w.setRow b cur')/\(aj c.M0 E L w).le (aj c.M0 E (L.set i (.cells cs')) (w.setRow b cur')):=by
 have ui:cur'.size=cur.size:=by
  obtain ⟨b1,c1,e1,k1,k2,k3⟩:=h.fQ i _ hi;rw [hb] at k1;cases k1
  rw [hh] at k2;cases k2
  have:=cH hv;have:=cH k3;simp only [lU] at *;omega
 have k:mH (E i) w (w.setRow b cur'):=by rw [hb];exact (vk.setRow w b cur').toE (lV hh ui)
 have hle:(aj c.M0 E L w).le (aj c.M0 E (L.set i (.cells cs')) (w.setRow b cur')) :=
  rm h hi rfl k (λo _=>trivial) (λ_ _ _ _ hn _=>absurd trivial hn) rfl (λv hv=>by simp only [bj] at hv ⊢;rw [da];exact hv) (λ_ _ _ hv=>hv) (λ_ hb=>hb)
 refine ⟨h.Ht hi rfl k hle rfl ?_ rfl,hle⟩;exact ⟨b,cur',e,hb,setRow_heap w b cur cur' e (0,0) hh,eK.mono hle _ _ hv⟩
theorem aI.kill {c:Ctx} {E:Nat->Option Nat} {L:List AB} {w:World} (h:aI c E L w) {i e n:Nat} {xs:List (List DV)} {sh:Bool} (hi:L[i]? = some (.row e n xs sh)) :
  aI c E (L.set i .dead) w/\(aj c.M0 E L w).le (aj c.M0 E (L.set i .dead) w):=by
 have hle:(aj c.M0 E L w).le (aj c.M0 E (L.set i .dead) w) :=
  rm h hi rfl (.refl _ _) (λo hm=>absurd hm (by simp [AB.mut])) (λ_ _ _ _ _ h=>h) rfl (λv hv=>kY hv) (λ_ _ _ hv=>iH hv) (λ_ hb=>hb)
 exact ⟨h.Ht hi rfl (.refl _ _) hle rfl trivial rfl,hle⟩
theorem aI.relabel {c:Ctx} {E:Nat->Option Nat} {L:List AB} {w:World} (h:aI c E L w) {i e n:Nat} {xs zs:List (List DV)} {sh:Bool} (hi:L[i]? = some (.row e n xs sh))
  (hlen:xs.length<=zs.length) (fy:BR (aj c.M0 E L w) w (E i) (.row e n zs sh)) :
  aI c (ca E L.length (E i)) (L.set i .dead++[.row e n zs sh]) w/\(aj c.M0 E L w).le (aj c.M0 (ca E L.length (E i)) (L.set i .dead++[.row e n zs sh]) w):=by
 have abd:i<L.length:=(dW.1 hi).1;have look:∀ j ab,(L.set i .dead++[AB.row e n zs sh])[j]? = some ab->(j=L.length/\ab = .row e n zs sh)∨(j=i/\ab = .dead)∨(j≠L.length/\j≠i/\L[j]? = some ab):=by
  intro j ab hj;by_cases h1:j=L.length
  ·subst h1;have:(L.set i .dead++[AB.row e n zs sh])[L.length]? = some (.row e n zs sh):=by
    rw [Ww (by simp)];simp
   rw [this] at hj;cases hj;exact .inl ⟨rfl,rfl⟩
  ·have h2:(L.set i AB.dead)[j]? = some ab:=getElem?_push_lt hj (by simpa using h1);by_cases h3:j=i
   ·subst h3;rw [aD hi] at h2;cases h2;exact .inr (.inl ⟨rfl,rfl⟩)
   ·rw [al h3] at h2;exact .inr (.inr ⟨h1,h3,h2⟩)
 have back:∀ j ab,L[j]? = some ab->j≠i->(L.set i .dead++[AB.row e n zs sh])[j]? = some ab:=by
  intro j ab hj cA;have:j<L.length:=(dW.1 hj).1;rw [CK (by simpa using this),al cA];exact hj
 have Hu:(L.set i .dead++[AB.row e n zs sh])[i]? = some .dead:=by
  rw [CK (by simpa using abd),aD hi]
 have hE:∀ j ab,L[j]? = some ab->ca E L.length (E i) j=E j:=by
  intro j ab hj;have:j<L.length:=(dW.1 hj).1;simp only [ca];rw [aR oM]
 have Px:ca E L.length (E i) L.length=E i:=by simp [ca]
 have hle:(aj c.M0 E L w).le (aj c.M0 (ca E L.length (E i)) (L.set i .dead++[.row e n zs sh]) w):=by
  refine ⟨?_,?_,?_,?_,?_⟩
  ·refine ug rfl (.refl _) ?_;rintro a u h1 h2;refine ⟨h1,?_⟩;rintro (hm|⟨j,cN,hj,he,hm⟩|⟨j,cN,hj,hm⟩)
   ·exact h2 (.inl hm)
   ·rcases look j cN hj with ⟨rfl,rfl⟩|⟨rfl,rfl⟩|⟨n1,n2,j6⟩
    ·rw [Px] at he;refine h2 (.inr (.inl ⟨i,_,hi,he,λhs=>?_⟩));have:=hm hs;exact fS (lT n hlen) this
    ·exact hm.elim
    ·rw [hE j cN j6] at he;exact h2 (.inr (.inl ⟨j,cN,j6,he,hm⟩))
   ·rcases look j cN hj with ⟨rfl,rfl⟩|⟨rfl,rfl⟩|⟨n1,n2,j6⟩
    ·simp [AB.boxes] at hm
    ·simp [AB.boxes] at hm
    ·exact h2 (.inr (.inr ⟨j,cN,j6,hm⟩))
  ·rintro j b ⟨cN,h1,h2,h3⟩;have cA:j≠i:=by rintro rfl;rw [hi] at h1;cases h1;simp [AB.gB] at h2
   exact ⟨cN,back j cN h1 cA,h2,by rw [hE j cN h1];exact h3⟩
  ·rintro j v ⟨cN,h1,h2⟩;by_cases cA:j=i
   ·subst cA;exact ⟨.dead,Hu,kY h2⟩
   ·refine ⟨cN,back j cN h1 cA,?_⟩
    cases cN with
    | cells cs=>simp only [bj] at h2 ⊢;rw [hE j _ h1];exact h2
    | map es=>exact h2
    | cK b cs=>exact h2
    | obj o=>exact h2
    | qJ o n cap=>simp only [bj] at h2 ⊢;rw [hE j _ h1];exact h2
    | dead=>exact h2
    | aN lo n ok=>exact h2.elim
    | row e n xs sh=>simp only [bj] at h2 ⊢;rw [hE j _ h1];exact h2
  ·rintro j x o v ⟨cN,h1,h2⟩;by_cases cA:j=i
   ·subst cA;exact ⟨.dead,Hu,iH h2⟩
   ·refine ⟨cN,back j cN h1 cA,?_⟩
    cases cN with
    | cells cs=>exact h2
    | map es=>exact h2
    | cK b cs=>exact h2
    | obj o=>exact h2
    | qJ o n cap=>exact h2
    | dead=>exact h2
    | aN lo n ok=>exact h2.elim
    | row e n xs sh=>simp only [mF] at h2 ⊢;rw [hE j _ h1];exact h2
  ·rintro j x v ⟨cN,h1,h2⟩;have cA:j≠i:=by
    rintro rfl;rw [hi] at h1;cases h1
    exact h2.elim
   exact ⟨cN,back j cN h1 cA,h2⟩
 refine ⟨⟨h.os,h.tape,h.output,h.size,h.gS,?_,?_,?_,?_,?_⟩,hle⟩
 ·intro j ab hj;rcases look j ab hj with ⟨rfl,rfl⟩|⟨rfl,rfl⟩|⟨n1,n2,j6⟩
  ·rw [Px];exact BR.mono hle fy (λ_ _ _=>rfl) λ_ _=>rfl
  ·trivial
  ·rw [hE j ab j6];exact BR.mono hle (h.fQ j ab j6) (λ_ _ _=>rfl) λ_ _=>rfl
 ·intro j ab b hj hl he;rcases look j ab hj with ⟨rfl,rfl⟩|⟨rfl,rfl⟩|⟨n1,n2,j6⟩
  ·rw [Px] at he;exact h.low i _ b hi rfl he
  ·cases hl
  ·rw [hE j ab j6] at he;exact h.low j ab b j6 hl he
 ·intro j1 j2 iS fp b h1 h2 l1 l2 e1 e2;rcases look j1 iS h1 with ⟨rfl,rfl⟩|⟨rfl,rfl⟩|⟨n1,n2,pK⟩
  ·rw [Px] at e1;rcases look j2 fp h2 with ⟨rfl,rfl⟩|⟨rfl,rfl⟩|⟨n1,n2,lA⟩
   ·rfl
   ·cases l2
   ·rw [hE j2 fp lA] at e2;exact absurd (h.inj j2 i fp _ b lA hi l2 rfl e2 e1) n2
  ·cases l1
  ·rw [hE j1 iS pK] at e1;rcases look j2 fp h2 with ⟨rfl,rfl⟩|⟨rfl,rfl⟩|⟨m1,m2,lA⟩
   ·rw [Px] at e2;exact absurd (h.inj j1 i iS _ b pK hi l1 rfl e1 e2) n2
   ·cases l2
   ·rw [hE j2 fp lA] at e2;exact h.inj j1 j2 iS fp b pK lA l1 l2 e1 e2
 ·exact h.q_.trans hle
 ·have lW:∀ (j:Nat) (ab:AB),(L.set i .dead++[AB.row e n zs sh])[j]? = some ab->∀ b∈ab.boxes,L[j]? = some ab:=by
   intro j ab hj b hb;rcases look j ab hj with ⟨rfl,rfl⟩|⟨rfl,rfl⟩|⟨n1,n2,j6⟩
   ·simp [AB.boxes] at hb
   ·simp [AB.boxes] at hb
   ·exact j6
  refine ⟨λj ab b hj hb=>h.bx.low j ab b (lW j ab hj b hb) hb,?_,?_,λj k ab bQ b hj hk hb kg=>h.bx.dj j k ab bQ b (lW j ab hj b hb) (lW k bQ hk b kg) hb kg⟩
  ·intro j k ab bQ b hj hb hk hl he;have CF:=lW j ab hj b hb;rcases look k bQ hk with ⟨rfl,rfl⟩|⟨rfl,rfl⟩|⟨n1,n2,Fj⟩
   ·rw [Px] at he;exact h.bx.own j i ab _ b CF hb hi rfl he
   ·cases hl
   ·rw [hE k bQ Fj] at he;exact h.bx.own j k ab bQ b CF hb Fj hl he
  ·intro j ab hj;rcases look j ab hj with ⟨rfl,rfl⟩|⟨rfl,rfl⟩|⟨n1,n2,j6⟩
   ·simp [AB.boxes]
   ·simp [AB.boxes]
   ·exact h.bx.nd j ab j6
theorem aI.write {c:Ctx} {E:Nat->Option Nat} {L:List AB} {w:World} (h:aI c E L w) {i e n:Nat} {xs:List (List DV)} {sh:Bool} (hi:L[i]? = some (.row e n xs sh)) {b:Nat} (hb:E i=some b)
  {cur cur':Array Value} (hh:w.heap[b]? = some (.cells cur e (0,0))) (hs:cur'.size=cur.size) (hk:cur'.toList.take (xs.length * n)=cur.toList.take (xs.length * n)) :
  aI c E L (w.setRow b cur')/\(aj c.M0 E L w).le (aj c.M0 E L (w.setRow b cur')):=by
 have k:mH (E i) w (w.setRow b cur'):=by rw [hb];exact (vk.setRow w b cur').toE (lV hh hs)
 have hL:L.set i (.row e n xs sh)=L:=by
  apply WS;intro j;by_cases cA:j=i
  ·subst cA;rw [aD hi,hi]
  ·rw [al cA]
 have hle:(aj c.M0 E L w).le (aj c.M0 E (L.set i (.row e n xs sh)) (w.setRow b cur')):=by
  refine rm h hi rfl k (λo hm=>hm) ?_ rfl ?_ (λ_ _ _ hv=>hv) (λ_ hb=>hb)
  ·intro b' o u kg hn hc;rw [hb] at kg;cases kg
   rw [cell_setRow_same w b o cur cur' e (0,0) hh];rw [cell_of_row w b o cur e (0,0) hh] at hc;have ho:o<xs.length * n:=by
    simp only [AB.mut] at hn;rcases qZ o (xs.length * n) with h1|h1
    ·exact h1
    ·exact absurd (λ_=>h1) hn
   have h1:(cur'.toList.take (xs.length * n))[o]? = (cur.toList.take (xs.length * n))[o]? := by rw [hk]
   rw [nX,nX,bp ho,bp ho] at h1;simp only [ZF] at h1;rw [h1];exact hc
  ·intro v hv;simp only [bj,hb] at hv ⊢;obtain ⟨cap,fx,h1,h2,h3⟩:=hv;rw [hh] at h2;cases h2
   exact ⟨cap,cur',h1,setRow_heap w b cur cur' e (0,0) hh,by rw [hs];exact h3⟩
 have:=h.Ht hi rfl k hle rfl ?_ rfl
 ·rw [hL] at this hle;exact ⟨this,hle⟩
 ·have fy:=h.fQ i _ hi;obtain ⟨hn,hl,h3⟩:=fy;refine ⟨hn,hl,?_⟩;rw [hb] at h3 ⊢;obtain ⟨cap,fx,h4,h5,h6,h7,h8⟩:=h3;rw [hh] at h4;cases h4
  exact ⟨cap,cur',setRow_heap w b cur cur' e (0,0) hh,by rw [hs];exact h5,h6,h7,by rw [hk];exact cR.mono hle.rd h8⟩
def iY:List (KV×MV)->List (Nat×List DV)
 | []=>[]
 | (_,.box b cs) :: r=>(b,cs) :: iY r
 | (_,.v _) :: r=>iY r
def AB.mI:AB->List (Nat×List DV)
 | .map es=>iY es
 | .cK b cs=>[(b,cs)]
 | _=>[]
def th (b:Nat) (cs:List DV):List (KV×MV)->List (KV×MV)
 | []=>[]
 | (k,.box b' c) :: r=>(bif Nat.beq b' b then (k,.box b' cs) else (k,.box b' c)) :: th b cs r
 | (k,.v x) :: r=>(k,.v x) :: th b cs r
def AB.gb (b:Nat) (cs:List DV):AB->AB
 | .map es => .map (th b cs es)
 | .cK b' c=>bif Nat.beq b' b then .cK b' cs else .cK b' c
 | ab=>ab
theorem lX:∀ {es:List (KV×MV)} {b:Nat} {cs:List DV},(b,cs)∈iY es->b∈bg es
 | [],_,_,h=>by simp [iY] at h
 | (k,.box b' c) :: r,b,cs,h=>by
   simp only [iY,jy,zeV] at h;simp only [bg,jy];rcases h with ⟨rfl,_⟩|h
   ·exact .inl rfl
   ·exact .inr (lX (es:=r) h)
 | (k,.v x) :: r,b,cs,h=>by
   simp only [iY] at h;simpa only [bg] using lX (es:=r) h
theorem AB.Hv {ab:AB} {b:Nat} {cs:List DV} (h:(b,cs)∈ab.mI):b∈ab.boxes:=by
 cases ab with
 | map es=>exact lX h
 | cK b' c=>simp only [AB.mI,Hj,zeV] at h;simp [AB.boxes,h.1]
 | _=>simp [AB.mI] at h
theorem rp {b:Nat} {cs:List DV}:∀ {es:List (KV×MV)},bg (th b cs es)=bg es
 | []=>rfl
 | (k,.box b' c) :: r=>by
   simp only [th]
   cases hb:Nat.beq b' b<;>simp only [jB,py,bg,rp (es:=r)]
 | (k,.v x) :: r=>by simp only [th,bg,rp (es:=r)]
theorem AB.Fk {b:Nat} {cs:List DV} {ab:AB}:(ab.gb b cs).boxes=ab.boxes:=by
 cases ab with
 | map es=>exact rp
 | cK b' c =>
   simp only [AB.gb]
   cases hb:Nat.beq b' b<;>rfl
 | _=>rfl
theorem AB.Hw {b:Nat} {cs:List DV} {ab:AB}:(ab.gb b cs).live=ab.live:=by
 cases ab with
 | cK b' c =>
   simp only [AB.gb]
   cases hb:Nat.beq b' b<;>rfl
 | _=>rfl
theorem AB.CR {b:Nat} {cs:List DV} {ab:AB}:(ab.gb b cs).gB=ab.gB:=by
 cases ab with
 | cK b' c =>
   simp only [AB.gb]
   cases hb:Nat.beq b' b<;>rfl
 | _=>rfl
theorem AB.K5 {b:Nat} {cs:List DV} {ab:AB} {o:Nat} (h:(ab.gb b cs).mut o):ab.mut o:=by
 cases ab with
 | cK b' c =>
   simp only [AB.gb] at h
   cases hb:Nat.beq b' b<;>rw [hb] at h<;>exact h
 | _=>exact h
theorem Fl {rd:Addr->Value->Prop} {w:World}:∀ {es:List (KV×MV)} {us:List MapEntry} {b:Nat} {cs:List DV},kf rd w es us->(b,cs)∈iY es->rj rd w b cs
 | [],_,_,_,_,h=>by simp [iY] at h
 | (k,.box b' c) :: r,us,b,cs,hv,h=>by
   simp only [kf] at hv;obtain ⟨u,dt,_,_,h2,h3⟩:=hv;simp only [iY,jy,zeV] at h;rcases h with ⟨rfl,rfl⟩|h
   ·exact h2.2
   ·exact Fl (es:=r) h3 h
 | (k,.v x) :: r,us,b,cs,hv,h=>by
   simp only [kf] at hv;obtain ⟨u,dt,_,_,h2,h3⟩:=hv;exact Fl (es:=r) h3 (by simpa only [iY] using h)
theorem BR.box {R:RC} {w:World} {eb:Option Nat} {ab:AB} (h:BR R w eb ab) {b:Nat} {cs:List DV} (hb:(b,cs)∈ab.mI):rj R.rd w b cs:=by
 cases ab with
 | map es =>
   obtain ⟨_,eR,_,_,_,h3,_⟩:=h;exact Fl h3 hb
 | cK b' c =>
   simp only [AB.mI,Hj,zeV] at hb;obtain ⟨rfl,rfl⟩:=hb;exact h
 | _=>simp [AB.mI] at hb
theorem As {rd jv:Addr->Value->Prop} (h:∀ a u,rd a u->jv a u) {w w':World} {b:Nat} {cs:List DV} (hb:rj jv w' b cs):∀ {es:List (KV×MV)} {us:List MapEntry},
  (∀ b'∈bg es,b'≠b->w'.heap[b']? = w.heap[b']?)->kf rd w es us->kf jv w' (th b cs es) us
 | [],us,_,x=>x
 | (k,.box b' c) :: r,us,hw,x=>by
   simp only [kf] at x;obtain ⟨u,dt,h1,h2,h3,h4⟩:=x;have hr:=As h hb (es:=r) (λb1 h1 h2=>hw b1 (by simp [bg,h1]) h2) h4;simp only [th]
   cases hq:Nat.beq b' b with
   | true =>
     have e:=ie hq;subst e;simp only [jB,kf];exact ⟨u,dt,h1,xi.mono h h2,⟨h3.1,hb⟩,hr⟩
   | false =>
     simp only [py,kf];refine ⟨u,dt,h1,xi.mono h h2,⟨h3.1,rj.mono h (hw b' (by simp [bg]) ?_) h3.2⟩,hr⟩;rintro rfl;rw [Sc] at hq
     cases hq
 | (k,.v y) :: r,us,hw,x=>by
   simp only [kf] at x;obtain ⟨u,dt,h1,h2,h3,h4⟩:=x;simp only [th,kf];exact ⟨u,dt,h1,xi.mono h h2,xi.mono h h3,As h hb (es:=r) (λb1 h1 h2=>hw b1 (by simpa [bg] using h1) h2) h4⟩
theorem aI.Sk {c:Ctx} {E:Nat->Option Nat} {L:List AB} {w:World} (h:aI c E L w) {m:Nat} {ab:AB} (hm:L[m]? = some ab) {b:Nat} {cs cs':List DV} (hb:(b,cs)∈ab.mI)
  {cur cur':Array Value} {e:TypeId} (hh:w.heap[b]? = some (.cells cur e (0,0))) (hs:cur'.size=cur.size) (hv:cR (aj c.M0 E L w).rd cs' cur'.toList) :
  aI c E (L.set m (ab.gb b cs')) (w.setRow b cur')/\(aj c.M0 E L w).le (aj c.M0 E (L.set m (ab.gb b cs')) (w.setRow b cur')):=by
 have Fm:=AB.Hv hb;have k:mH (some b) w (w.setRow b cur'):=(vk.setRow w b cur').toE (lV hh hs);have jH:∀ x,x≠b->(w.setRow b cur').heap[x]? = w.heap[x]? := λx hx=>k.block x (λhe=>hx (by cases he;rfl));have look:∀ (j:Nat) (cN:AB),(L.set m (ab.gb b cs'))[j]? = some cN->∃ cU,L[j]? = some cU/\cN.boxes=cU.boxes/\cN.live=cU.live/\(∀ o,cN.mut o->cU.mut o)/\((j=m/\cU=ab/\cN=ab.gb b cs')∨(j≠m/\cN=cU)):=by
  intro j cN hj;by_cases cA:j=m
  ·subst cA;rw [aD hm] at hj;cases hj
   exact ⟨ab,hm,AB.Fk,AB.Hw,λo=>AB.K5,.inl ⟨rfl,rfl,rfl⟩⟩
  ·rw [al cA] at hj;exact ⟨cN,hj,rfl,rfl,λ_ h=>h,.inr ⟨cA,rfl⟩⟩
 have hle:(aj c.M0 E L w).le (aj c.M0 E (L.set m (ab.gb b cs')) (w.setRow b cur')):=by
  refine ⟨?_,?_,?_,?_,?_⟩
  ·refine ug rfl k.CQ ?_;rintro a u h1 h2;have bC:a.block≠b:=λhe=>h2 (.inr (.inr ⟨m,ab,hm,he▸Fm⟩));refine ⟨by rw [World.cell?_of_block (w:=w) (jH a.block bC)];exact h1,?_⟩;rintro (uY|⟨j,cN,hj,he,Hy⟩|⟨j,cN,hj,Hy⟩)
   ·exact h2 (.inl uY)
   ·obtain ⟨cU,k1,k2,k3,k4,_⟩:=look j cN hj;exact h2 (.inr (.inl ⟨j,cU,k1,he,k4 _ Hy⟩))
   ·obtain ⟨cU,k1,k2,k3,k4,_⟩:=look j cN hj;exact h2 (.inr (.inr ⟨j,cU,k1,k2▸Hy⟩))
  ·rintro j x ⟨cN,h1,h2,h3⟩;by_cases cA:j=m
   ·subst cA;rw [hm] at h1;cases h1
    exact ⟨_,aD hm,by rw [AB.CR];exact h2,h3⟩
   ·exact ⟨cN,by rw [al cA];exact h1,h2,h3⟩
  ·rintro j v ⟨cN,h1,h2⟩;by_cases cA:j=m
   ·subst cA;rw [hm] at h1;cases h1
    cases ab with
    | map es=>exact h2.elim
    | cK b cs=>exact h2.elim
    | _=>simp [AB.mI] at hb
   ·refine ⟨cN,by rw [al cA];exact h1,?_⟩
    cases cN with
    | cells cs=>exact h2
    | map es=>exact h2
    | cK b cs=>exact h2
    | obj o=>exact h2
    | qJ o n cap=>exact h2
    | dead=>exact h2
    | aN lo n ok=>exact h2.elim
    | row e n xs sh =>
      simp only [bj] at h2 ⊢
      cases hE:E j with
      | none=>rw [hE] at h2;exact h2
      | some x =>
        rw [hE] at h2;obtain ⟨cap,fx,h3,h4,h5⟩:=h2;exact ⟨cap,fx,h3,by rw [jH x (λhe=>h.bx.own m j ab _ b hm Fm h1 rfl (he▸hE))];exact h4,h5⟩
  ·rintro j x o v ⟨cN,h1,h2⟩;by_cases cA:j=m
   ·subst cA;rw [hm] at h1;cases h1
    cases ab with
    | map es=>exact h2.elim
    | cK b cs=>exact h2.elim
    | _=>simp [AB.mI] at hb
   ·exact ⟨cN,by rw [al cA];exact h1,h2⟩
  ·rintro j x v ⟨cN,h1,h2⟩;have cA:j≠m:=by
    rintro rfl;rw [hm] at h1;cases h1
    obtain ⟨_,_,_,rfl⟩:=pG h2;simp [AB.mI] at hb
   exact ⟨cN,by rw [al cA];exact h1,fV (λb1 eS=>jH b1 λhe=>cA (h.bx.dj j m cN ab b h1 hm (he▸eS) Fm)) h2⟩
 have lW:rj (aj c.M0 E (L.set m (ab.gb b cs')) (w.setRow b cur')).rd (w.setRow b cur') b cs' :=
  ⟨cur',e,setRow_heap w b cur cur' e (0,0) hh,cR.mono hle.rd hv⟩
 refine ⟨⟨k.os.trans h.os,k.tape.trans h.tape,k.output.trans h.output,by rw [k.size];exact h.size,?_,?_,?_,?_,h.q_.trans hle,?_⟩,hle⟩
 ·intro x hp;rw [jH x (λhe=>h.bx.low m ab b hm Fm (he▸hp))];exact h.gS x hp
 ·intro j cN hj;obtain ⟨cU,k1,k2,k3,k4,oC⟩:=look j cN hj;rcases oC with ⟨rfl,rfl,rfl⟩|⟨ef,rfl⟩
  ·have fy:=h.fQ j _ hm
   cases cU with
   | map es =>
     obtain ⟨x,eR,clock,q1,q2,q3,q4,q5⟩:=fy;exact ⟨x,eR,clock,q1,by rw [jH x (λhe=>h.bx.own j j _ _ b hm Fm hm rfl (he▸q1))];exact q2,As hle.rd lW (λb' _ ef=>jH b' ef) q3,q4,q5⟩
   | cK b' c' =>
     simp only [AB.boxes,Hj] at Fm;subst Fm;have e1:AB.gb b cs' (AB.cK b c') = .cK b cs':=by simp [AB.gb]
     rw [e1] at lW ⊢;exact lW
   | _=>simp [AB.mI] at hb
  ·refine BR.mono hle (h.fQ j _ k1) (λx he hl=>jH x ?_) λx hx=>jH x ?_
   ·rintro rfl;exact h.bx.own m j ab _ _ hm Fm k1 hl he
   ·rintro rfl;exact ef (h.bx.dj j m _ ab _ k1 hm hx Fm)
 ·intro j cN x hj hl he;obtain ⟨cU,k1,k2,k3,k4,_⟩:=look j cN hj;exact h.low j cU x k1 (k3▸hl) he
 ·intro j1 j2 iS fp x h1 h2 l1 l2 e1 e2;obtain ⟨a1,k1,k2,k3,k4,_⟩:=look j1 iS h1;obtain ⟨a2,m1,m2,m3,m4,_⟩:=look j2 fp h2;exact h.inj j1 j2 a1 a2 x k1 m1 (k3▸l1) (m3▸l2) e1 e2
 ·refine ⟨?_,?_,?_,?_⟩
  ·intro j cN x hj hx;obtain ⟨a1,k1,k2,k3,k4,_⟩:=look j cN hj;exact h.bx.low j a1 x k1 (k2▸hx)
  ·intro j1 j2 iS fp x h1 hx h2 hl he;obtain ⟨a1,k1,k2,k3,k4,_⟩:=look j1 iS h1;obtain ⟨a2,m1,m2,m3,m4,_⟩:=look j2 fp h2;exact h.bx.own j1 j2 a1 a2 x k1 (k2▸hx) m1 (m3▸hl) he
  ·intro j cN hj;obtain ⟨a1,k1,k2,k3,k4,_⟩:=look j cN hj;rw [k2];exact h.bx.nd j a1 k1
  ·intro j1 j2 iS fp x h1 h2 hx hx';obtain ⟨a1,k1,k2,k3,k4,_⟩:=look j1 iS h1;obtain ⟨a2,m1,m2,m3,m4,_⟩:=look j2 fp h2;exact h.bx.dj j1 j2 a1 a2 x k1 m1 (k2▸hx) (m2▸hx')
end Go.Ab
