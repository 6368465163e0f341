/- PrimaryExact: abstract runs. -/
import Derived.Test.YtolkmjfkkkiboaaGreatPrimaryExactLayA
import Derived.Laws.IdiomStrings
import Derived.Lib.SlBytesConst
set_option linter.all false
namespace Go.Ab
noncomputable section
open Go.RowKit
structure TI where
 desc:TypeDesc
 zero:Value
 size:Nat
 bytes:Nat
 cK:Bool
 /-- new ones' nil slices are rows of their own -/
 rows:Bool
structure cp (P:Program) (tt:TypeId->Option TI):Prop where
 ok:∀ t i,tt t=some i->P.underlying t=some i.desc/\∃ info,P.info? t=some info/\info.zero=some i.zero/\info.size=i.size/\info.bytes=i.bytes
 sz:∀ t i,tt t=some i->G9 t=i.size
instance {P:Program} {tt:TypeId->Option TI}:CoeFun (cp P tt) λ_=>∀ t i,tt t=some i->P.underlying t=some i.desc/\∃ info,P.info? t=some info/\info.zero=some i.zero/\info.size=i.size/\info.bytes=i.bytes:=⟨cp.ok⟩
def Hz:Value->DV
 | .int k n => .int k n
 | .bool b => .bool b
 | .string s => .str s
 | .float k b => .Ho k b
 | .complex k x y => .CP k x y
 | .slice none 0 0 => .nils
 | .pointer none => .Ap
 | .map none => .Hp
 | .nilFunc => .Sd
 | _ => .any
def W5:Value->Bool
 | .agg _ | .tuple _=>false
 | _=>true
def qK:Value->AV
 | .agg cs=>bif cs.toList.all W5 then .agg ((cs.toList.map Hz).map AV.d) else .d .any
 | .tuple _ => .d .any
 | v => .d (Hz v)
theorem HA (rd:Addr->Value->Prop) (v:Value):VD rd (Hz v) v:=by
 unfold Hz;split<;>simp [VD]
theorem Ny (rd:Addr->Value->Prop):∀ (l:List Value),l.all W5=true->cR rd (l.map Hz) l
 | [],_=>by simp [cR,Cs]
 | v :: l,h=>by
   simp only [List.all_cons,oB] at h;simp only [Dv,cR,Cs];exact ⟨v,l,rfl,by cases v<;>simp_all [W5,Value.oneCell'],HA rd v,Ny rd l h.2⟩
theorem lY (R:RC) (v:Value):VR R (qK v) v:=by
 unfold qK;split
 ·rename_i cs
  cases h:cs.toList.all W5 with
  | false=>simp [VR,VD]
  | true=>simp only [jB,VR];exact ⟨cs,rfl,tD.2 (Ny R.rd _ h)⟩
 ·simp [VR,VD]
 ·simp only [VR];exact HA R.rd _
def ev (F:AF):Operand->AV
 | .tmp t=>bt F t
 | .const v=>qK v
 | .func f => .fn f []
 | .global _ => .d .any
theorem eE.ev {c:Ctx} {E:Nat->Option Nat} {F:AF} {L:List AB} {a:Act} {w:World} (h:eE c E F L a w) (x:Operand):VR (aj c.M0 E L w) (ev F x) (a.eval x):=by
 cases x with
 | tmp t=>exact h.dL t
 | const v=>exact lY _ v
 | func f=>simp only [Ab.ev,Act.eval,VR];exact ⟨#[],rfl,by simp [cD]⟩
 | global g=>simp [Ab.ev,VR,VD]
def W6:IntKind->IntKind->Bool
 | .i8,.i8 | .i16,.i16 | .i32,.i32 | .i64,.i64 | .u8,.u8 | .u16,.u16 | .u32,.u32 | .u64,.u64=>true
 | _,_=>false
theorem Fo {k k':IntKind} (h:W6 k k'=true):k=k':=by cases k<;>cases k'<;>first|rfl|cases h
def abf (k:IntKind) (x y:Int):Int:=k.wrap (BitVec.ofInt k.bits x &&& BitVec.ofInt k.bits y).toNat
def ior (k:IntKind) (x y:Int):Int:=k.wrap (BitVec.ofInt k.bits x ||| BitVec.ofInt k.bits y).toNat
def abg (k:IntKind) (x y:Int):Int:=k.wrap (BitVec.ofInt k.bits x ^^^ BitVec.ofInt k.bits y).toNat
def aeN (k:IntKind) (x y:Int):Int:=k.wrap (x * 2 ^ (min y.toNat k.bits))
def W7 (k:IntKind) (x y:Int):Int:=x.fdiv (2 ^ (min y.toNat k.bits))
def W8 (op:BinOp) (k:IntKind) (a b:Int) (K:AV->Prop):Prop :=
 match op with
 | .add=>∀ z,z=k.wrap (a+b)->K (.d (.int k z))
 | .sub=>∀ z,z=k.wrap (a - b)->K (.d (.int k z))
 | .mul=>∀ z,z=k.wrap (a * b)->K (.d (.int k z))
 | .quo=>b≠0/\∀ z,z=k.wrap (a.tdiv b)->K (.d (.int k z))
 | .rem=>b≠0/\∀ z,z=a.tmod b->K (.d (.int k z))
 | .and=>∀ z,z=abf k a b->K (.d (.int k z))
 | .or=>∀ z,z=ior k a b->K (.d (.int k z))
 | .xor=>∀ z,z=abg k a b->K (.d (.int k z))
 | .eql=>K (.d (.bool (a == b)))
 | .neq=>K (.d (.bool (a != b)))
 | .lss=>K (.d (.bool (decide (a<b))))
 | .leq=>K (.d (.bool (decide (a<=b))))
 | .gtr=>K (.d (.bool (decide (a>b))))
 | .geq=>K (.d (.bool (decide (a≥b))))
 | _=>False
def abh (op:BinOp) (a b:ByteArray) (K:AV->Prop):Prop :=
 match op with
 | .add=>((a.size+b.size:Nat):Int)<=IntKind.i64.max/\K (.d (.str (a++b)))
 | .eql=>K (.d (.bool (a.toList == b.toList)))
 | .neq=>K (.d (.bool (!(a.toList == b.toList))))
 | .lss=>K (.d (.bool (Op.bytesLess a.toList b.toList)))
 | .leq=>K (.d (.bool (Op.bytesLess a.toList b.toList||a.toList == b.toList)))
 | .gtr=>K (.d (.bool (!(Op.bytesLess a.toList b.toList||a.toList == b.toList))))
 | .geq=>K (.d (.bool (!(Op.bytesLess a.toList b.toList))))
 | _=>False
def eo (op:BinOp) (k:FloatKind) (a b:Nat):Bool :=
 match op with
 | .eql=>k.format.order a b == some .eq
 | .neq=>k.format.order a b != some .eq
 | .lss=>k.format.order a b == some .lt
 | .leq=>k.format.order a b == some .lt||k.format.order a b == some .eq
 | .gtr=>k.format.order a b == some .gt
 | .geq=>k.format.order a b == some .gt||k.format.order a b == some .eq
 | _=>false
def ZN:BinOp->Bool | .eql | .neq | .lss | .leq | .gtr | .geq=>true|_=>false
def Sl:FloatKind->FloatKind->Bool | .f32,.f32 | .f64,.f64=>true|_,_=>false
theorem Nz {k k':FloatKind} (h:Sl k k'=true):k=k':=by cases k<;>cases k'<;>first|rfl|cases h
def bL (k:FloatKind) (n:Int):Nat:=k.nearest n
def NA:TypeDesc->Bool | .bool=>true|_=>false
def nZ:TypeDesc->Bool | .pointer _=>true|_=>false
def km:TypeDesc->Bool | .slice _=>true|_=>false
def zK:TypeDesc->Bool | .map _ _=>true|_=>false
def eqK (d:TypeDesc) (neg:Bool) (x y:AV) (K:AV->Prop):Prop :=
 match x,y with
 | .d (.bool a),.d (.bool b)=>bif NA d then (match neg with|true=>K (.d (.bool (!(a == b))))|false=>K (.d (.bool (a == b)))) else False
 | .d .Ap,.d .Ap=>bif nZ d then K (.d (.bool (!neg))) else False
 | .ptr _ _,.d .Ap=>bif nZ d then K (.d (.bool neg)) else False
 | .im _ _,.d .Ap=>bif nZ d then K (.d (.bool neg)) else False
 | .mp _ _ _,.d .Ap=>bif nZ d then K (.d (.bool neg)) else False
 | .d .Ap,.ptr _ _=>bif nZ d then K (.d (.bool neg)) else False
 | .d .nils,.d .nils=>bif km d then K (.d (.bool (!neg))) else False
 | .d (.sl _ xs),.d .nils=>bif km d then ∀ b:Bool,(b=true->xs=[])->K (.d (.bool (if neg then !b else b))) else False
 | .d (.slo _ xs),.d .nils=>bif km d then ∀ b:Bool,(b=true->xs=[])->K (.d (.bool (if neg then !b else b))) else False
 | .map _,.d .Hp=>bif zK d then K (.d (.bool neg)) else False
 | .d .Hp,.d .Hp=>bif zK d then K (.d (.bool (!neg))) else False
 | _,_=>False
def W9 (tt:TypeId->Option TI) (t:TypeId) (neg:Bool) (x y:AV) (K:AV->Prop):Prop :=
 match tt t with
 | some i=>eqK i.desc neg x y K
 | none=>False
def Sm (tt:TypeId->Option TI) (op:BinOp) (t:TypeId) (x y:AV) (K:AV->Prop):Prop :=
 match x,y with
 | .d (.int k a),.d (.int k' b) =>
   match op with
   | .shl=>0<=b/\∀ z,z=aeN k a b->K (.d (.int k z))
   | .shr=>0<=b/\∀ z,z=W7 k a b->K (.d (.int k z))
   | op=>bif W6 k k' then W8 op k a b K else False
 | .d (.str a),.d (.str b)=>abh op a b K
 | .d (.Ho k a),.d (.Ho k' b)=>bif Sl k k'&&ZN op then K (.d (.bool (eo op k a b))) else False
 | x,y =>
   match op with
   | .eql=>W9 tt t false x y K
   | .neq=>W9 tt t true x y K
   | _=>False
theorem lE (P:Program) (w:World) (op:BinOp) (t:TypeId) (x y:Operand) (k k':IntKind) (a b:Int):(eqGuard op t x y (.int k a) (.int k' b)).run P w = .ok () w:=by
 unfold eqGuard
 cases op<;>simp
theorem zr (P:Program) (w:World) (op:BinOp) (t:TypeId) (x y:Operand) (a b:ByteArray):(eqGuard op t x y (.string a) (.string b)).run P w = .ok () w:=by
 unfold eqGuard
 cases op<;>simp
theorem xk (P:Program) (w:World) (op:BinOp) (t:TypeId) (x y:Operand) (a b:Bool):(eqGuard op t x y (.bool a) (.bool b)).run P w = .ok () w:=by
 unfold eqGuard
 cases op<;>simp
theorem gm (P:Program) (w:World) (op:BinOp) (t:TypeId) (x y:Operand) (a b:Option Addr):(eqGuard op t x y (.pointer a) (.pointer b)).run P w = .ok () w:=by
 unfold eqGuard
 cases op<;>simp
theorem zt (P:Program) (w:World) (op:BinOp) (t:TypeId) (x y:Operand) (k:FloatKind) (a b:Nat):(eqGuard op t x y (.float k a) (.float k b)).run P w = .ok () w:=by
 unfold eqGuard
 cases op<;>simp
theorem W_ {P:Program} {w:World} {op:BinOp} {k:IntKind} {a b:Int} {K:AV->Prop} (h:W8 op k a b K) (WD:op ≠ .shl/\op ≠ .shr) :
  ∃ v av,(binOp op 0 (.int k a) (.int k b)).run P w = .ok v w/\(∀ t,binOp op t (.int k a) (.int k b)=binOp op 0 (.int k a) (.int k b))/\K av/\∀ R,VR R av v:=by
 cases op<;>simp only [W8] at h
 case quo=>exact ⟨.int k (k.wrap (a.tdiv b)),_,by simp [binOp,Op.intDiv,h.1],λ_=>rfl,h.2 _ rfl,λR=>by simp [VR,VD]⟩
 case rem=>exact ⟨.int k (a.tmod b),_,by simp [binOp,Op.intDiv,h.1],λ_=>rfl,h.2 _ rfl,λR=>by simp [VR,VD]⟩
 all_goals first
  | exact h.elim
  | exact ⟨_,_,by simp [binOp,Op.intArith],λ_=>rfl,h _ rfl,λR=>by simp [VR,VD]⟩
  | exact ⟨_,_,by simp [binOp,Op.intBits,abf,ior,abg];rfl,λ_=>rfl,h _ rfl,λR=>by simp [VR,VD,abf,ior,abg]⟩
  | exact ⟨_,_,by simp [binOp,Op.intCmp];rfl,λ_=>rfl,h,λR=>by simp [VR,VD]⟩
theorem Xa {P:Program} {w:World} {op:BinOp} {a b:ByteArray} {K:AV->Prop} (h:abh op a b K) :
  ∃ v av,(∀ t,(binOp op t (.string a) (.string b)).run P w = .ok v w)/\K av/\∀ R,VR R av v:=by
 cases op<;>simp only [abh] at h<;>first
  | exact h.elim
  | exact ⟨_,_,λt=>by simp [binOp,Op.stringOp];rfl,h,λR=>by simp [VR,VD]⟩
  | skip
 refine ⟨.string (a++b),_,λt=>?_,h.2,λR=>by simp [VR,VD]⟩;have h1:¬(((a.size+b.size:Nat):Int)>IntKind.i64.max):=by have:=h.1;omega
 simp only [binOp,Op.stringOp];rw [aR h1];rfl
theorem run_equal_bool {P:Program} {w:World} {t:TypeId} (ht:P.underlying t=some .bool) (a b:Bool):(Op.equal t (.bool a) (.bool b)).run P w = .ok (a == b) w:=by
 have e:Op.equal t (.bool a) (.bool b)=Op.equalIn (9999+1) t (.bool a) (.bool b):=rfl;rw [e,Op.equalIn];simp only [Sem.run_bind,run_underlying ht,Result.andThen_ok];rfl
theorem mJ {P:Program} {w:World} {t e:TypeId} (ht:P.underlying t=some (.pointer e)) (b:Option Addr):(Op.equal t (.pointer none) (.pointer b)).run P w = .ok b.isNone w:=by
 have e:Op.equal t (.pointer none) (.pointer b)=Op.equalIn (9999+1) t (.pointer none) (.pointer b):=rfl;rw [e,Op.equalIn];simp only [Sem.run_bind,run_underlying ht,Result.andThen_ok]
 cases b<;>rfl
theorem iv {P:Program} {w:World} {t e:TypeId} (ht:P.underlying t=some (.pointer e)) (a:Addr):(Op.equal t (.pointer (some a)) (.pointer none)).run P w = .ok false w:=by
 have e:Op.equal t (.pointer (some a)) (.pointer none)=Op.equalIn (9999+1) t (.pointer (some a)) (.pointer none):=rfl;rw [e,Op.equalIn];simp only [Sem.run_bind,run_underlying ht,Result.andThen_ok];rfl
def K6 (neg:Bool):BinOp:=match neg with|true => .neq|false => .eql
theorem fz {P:Program} {w:World} {t:TypeId} {u v:Value} {r:Bool} (neg:Bool) (hb:∀ op,(op = .eql∨op = .neq)->binOp op t u v=(match op with | .eql=>(do pure (.bool (<-Op.equal t u v)))|_=>(do pure (.bool (!(<-Op.equal t u v))))))
  (h:(Op.equal t u v).run P w = .ok r w):(binOp (K6 neg) t u v).run P w = .ok (.bool (if neg then !r else r)) w:=by
 cases neg
 ·have:=hb .eql (.inl rfl);simp only [K6];rw [this];simp only [Sem.run_bind,h,Result.andThen_ok];rfl
 ·have:=hb .neq (.inr rfl);simp only [K6];rw [this];simp only [Sem.run_bind,h,Result.andThen_ok];rfl
theorem pL {P:Program} {w:World} {t e:TypeId} (ht:P.underlying t=some (.slice e)) (a:Option Addr) (l k:Nat):(Op.equal t (.slice a l k) (.slice none 0 0)).run P w = .ok a.isNone w:=by
 have e:Op.equal t (.slice a l k) (.slice none 0 0)=Op.equalIn (9999+1) t (.slice a l k) (.slice none 0 0):=rfl;rw [e,Op.equalIn];simp only [Sem.run_bind,run_underlying ht,Result.andThen_ok]
 cases a<;>rfl
theorem tF {P:Program} {w:World} {t k e:TypeId} (ht:P.underlying t=some (.map k e)) (a:Option Nat):(Op.equal t (.map a) (.map none)).run P w = .ok a.isNone w:=by
 have e:Op.equal t (.map a) (.map none)=Op.equalIn (9999+1) t (.map a) (.map none):=rfl;rw [e,Op.equalIn];simp only [Sem.run_bind,run_underlying ht,Result.andThen_ok]
 cases a<;>rfl
theorem mK (P:Program) (w:World) (op:BinOp) (t:TypeId) (x y:Operand) (a b:Option Addr) (l k l' k':Nat):(eqGuard op t x y (.slice a l k) (.slice b l' k')).run P w = .ok () w:=by
 unfold eqGuard
 cases op<;>simp
theorem qv (P:Program) (w:World) (op:BinOp) (t:TypeId) (x y:Operand) (a b:Option Nat):(eqGuard op t x y (.map a) (.map b)).run P w = .ok () w:=by
 unfold eqGuard
 cases op<;>simp
theorem abi {P:Program} {w:World} {d:TypeDesc} {neg:Bool} {x y:AV} {K:AV->Prop} (h:eqK d neg x y K) (t:TypeId) (ht:P.underlying t=some d)
  {R:RC} {u v:Value} (hu:VR R x u) (hv:VR R y v) (xo yo:Operand) :
  ∃ b,(eqGuard (K6 neg) t xo yo u v).run P w = .ok () w/\(binOp (K6 neg) t u v).run P w = .ok (.bool b) w/\K (.d (.bool b)):=by
 unfold eqK at h;split at h
 ·rename_i a b;simp only [VR,VD] at hu hv;subst hu;subst hv
  cases d<;>simp only [NA,py,jB] at h<;>first|exact h.elim|skip
  refine ⟨_,xk _ _ _ _ _ _ _ _,fz neg (λop ho=>by rcases ho with rfl|rfl<;>rfl) (run_equal_bool ht a b),?_⟩
  cases neg<;>exact h
 ·simp only [VR,VD] at hu hv;subst hu;subst hv
  cases d<;>simp only [nZ,py,jB] at h<;>first|exact h.elim|skip
  refine ⟨_,gm _ _ _ _ _ _ _ _,fz neg (λop ho=>by rcases ho with rfl|rfl<;>rfl) (mJ ht none),?_⟩
  cases neg<;>exact h
 ·simp only [VR,VD] at hu hv;obtain ⟨b,_,rfl⟩:=hu;subst hv
  cases d<;>simp only [nZ,py,jB] at h<;>first|exact h.elim|skip
  refine ⟨_,gm _ _ _ _ _ _ _ _,fz neg (λop ho=>by rcases ho with rfl|rfl<;>rfl) (iv ht _),?_⟩
  cases neg<;>exact h
 ·simp only [VR,VD] at hu hv;obtain ⟨b,rfl,_⟩:=hu;subst hv
  cases d<;>simp only [nZ,py,jB] at h<;>first|exact h.elim|skip
  refine ⟨_,gm _ _ _ _ _ _ _ _,fz neg (λop ho=>by rcases ho with rfl|rfl<;>rfl) (iv ht _),?_⟩
  cases neg<;>exact h
 ·simp only [VR,VD] at hu hv;subst hu;subst hv
  cases d<;>simp only [nZ,py,jB] at h<;>first|exact h.elim|skip
  refine ⟨_,gm _ _ _ _ _ _ _ _,fz neg (λop ho=>by rcases ho with rfl|rfl<;>rfl) (iv ht _),?_⟩
  cases neg<;>exact h
 ·simp only [VR,VD] at hu hv;obtain ⟨b,_,rfl⟩:=hv;subst hu
  cases d<;>simp only [nZ,py,jB] at h<;>first|exact h.elim|skip
  refine ⟨_,gm _ _ _ _ _ _ _ _,fz neg (λop ho=>by rcases ho with rfl|rfl<;>rfl) (mJ ht _),?_⟩
  cases neg<;>exact h
 ·simp only [VR,VD] at hu hv;subst hu;subst hv
  cases d<;>simp only [km,py,jB] at h<;>first|exact h.elim|skip
  refine ⟨_,mK _ _ _ _ _ _ _ _ _ _ _ _,fz neg (λop ho=>by rcases ho with rfl|rfl<;>rfl) (pL ht _ _ _),?_⟩
  cases neg<;>exact h
 ·rename_i n xs;simp only [VR,VD] at hu hv;obtain ⟨_,a,cap,rfl,h1,_,h2,_⟩:=hu;subst hv
  cases d<;>simp only [km,py,jB] at h<;>first|exact h.elim|skip
  refine ⟨_,mK _ _ _ _ _ _ _ _ _ _ _ _,fz neg (λop ho=>by rcases ho with rfl|rfl<;>rfl) (pL ht _ _ _),?_⟩;refine h a.isNone λha=>?_;have:=h2 (by simpa using ha);exact oy oM
 ·rename_i n xs;simp only [VR,VD] at hu hv;obtain ⟨_,a,cap,rfl,h1,_,h2,_⟩:=hu;subst hv
  cases d<;>simp only [km,py,jB] at h<;>first|exact h.elim|skip
  refine ⟨_,mK _ _ _ _ _ _ _ _ _ _ _ _,fz neg (λop ho=>by rcases ho with rfl|rfl<;>rfl) (pL ht _ _ _),?_⟩;refine h a.isNone λha=>?_;have:=h2 (by simpa using ha);exact oy oM
 ·simp only [VR,VD] at hu hv;obtain ⟨b,_,rfl⟩:=hu;subst hv
  cases d<;>simp only [zK,py,jB] at h<;>first|exact h.elim|skip
  refine ⟨_,qv _ _ _ _ _ _ _ _,fz neg (λop ho=>by rcases ho with rfl|rfl<;>rfl) (tF ht _),?_⟩
  cases neg<;>exact h
 ·simp only [VR,VD] at hu hv;subst hu;subst hv
  cases d<;>simp only [zK,py,jB] at h<;>first|exact h.elim|skip
  refine ⟨_,qv _ _ _ _ _ _ _ _,fz neg (λop ho=>by rcases ho with rfl|rfl<;>rfl) (tF ht _),?_⟩
  cases neg<;>exact h
 ·exact h.elim
theorem Fp {P:Program} {tt:TypeId->Option TI} (ht:cp P tt) {w:World} {op:BinOp} {t:TypeId} {x y:AV} {K:AV->Prop} (h:Sm tt op t x y K)
  {R:RC} {u v:Value} (hu:VR R x u) (hv:VR R y v) (xo yo:Operand) :
  ∃ r av,(eqGuard op t xo yo u v).run P w = .ok () w/\(binOp op t u v).run P w = .ok r w/\K av/\∀ R,VR R av r:=by
 unfold Sm at h;split at h
 ·rename_i k a k' b;simp only [VR,VD] at hu hv;subst hu;subst hv;by_cases hs:op = .shl∨op = .shr
  ·rcases hs with rfl|rfl
   ·simp only at h;refine ⟨.int k (aeN k a b),_,lE _ _ _ _ _ _ _ _ _ _,?_,h.2 _ rfl,λR=>by simp [VR,VD]⟩;simp only [binOp,Op.shift];rw [aR oM];rfl
   ·simp only at h;refine ⟨.int k (W7 k a b),_,lE _ _ _ _ _ _ _ _ _ _,?_,h.2 _ rfl,λR=>by simp [VR,VD]⟩;simp only [binOp,Op.shift];rw [aR oM];rfl
  ·have bP:op ≠ .shl/\op ≠ .shr:=by constructor<;>(rintro rfl;simp at hs)
   have h':(bif W6 k k' then W8 op k a b K else False):=by
    cases op<;>first|exact h|(simp at hs)
   cases hk:W6 k k' with
   | false=>rw [hk] at h';exact h'.elim
   | true =>
     rw [hk] at h';have:=Fo hk;subst this;obtain ⟨r,av,h1,h2,h3,h4⟩:=W_ (P:=P) (w:=w) h' bP;exact ⟨r,av,lE _ _ _ _ _ _ _ _ _ _,by rw [h2 t];exact h1,h3,h4⟩
 ·rename_i a b;simp only [VR,VD] at hu hv;subst hu;subst hv;obtain ⟨r,av,h1,h2,h3⟩:=Xa (P:=P) (w:=w) h;exact ⟨r,av,zr _ _ _ _ _ _ _ _,h1 t,h2,h3⟩
 ·rename_i k a k' b;simp only [VR,VD] at hu hv;subst hu;subst hv
  cases hk:(Sl k k'&&ZN op) with
  | false=>rw [hk] at h;exact h.elim
  | true =>
    rw [hk] at h;simp only [oB] at hk;have:=Nz hk.1;subst this;have hc:=hk.2;refine ⟨.bool (eo op k a b),_,zt _ _ _ _ _ _ _ _ _,?_,h,λR=>by simp [VR,VD]⟩
    cases op<;>first|(cases hc;done)|(simp [binOp,Op.floatCmp,eo])
 ·have key:∀ neg,W9 tt t neg x y K->∃ r av,(eqGuard (K6 neg) t xo yo u v).run P w = .ok () w/\(binOp (K6 neg) t u v).run P w = .ok r w/\K av/\∀ R,VR R av r:=by
   intro neg hK;unfold W9 at hK;split at hK
   ·rename_i i hi;obtain ⟨b,h1,h2,h3⟩:=abi (w:=w) hK t (ht t i hi).1 hu hv xo yo;exact ⟨_,_,h1,h2,h3,λR=>by simp [VR,VD]⟩
   ·exact hK.elim
  split at h
  ·exact key false h
  ·exact key true h
  ·exact h.elim
end
noncomputable section
open Go.RowKit
noncomputable def abl (cs:List AV):Nat->(AV->Prop)->Prop :=
 List.rec (motive:=λ_=>Nat->(AV->Prop)->Prop) (λ_ _=>False) (λc _ ih n=>Nat.rec (motive:=λ_=>(AV->Prop)->Prop) (λK=>K c) (λm _=>ih m) n) cs
theorem zL:∀ {cs:List AV} {n:Nat} {K:AV->Prop},abl cs n K->∃ c,cs[n]? = some c/\K c
 | [],_,_,h=>h.elim
 | c :: _,0,_,h=>⟨c,by simp,h⟩
 | _ :: r,n+1,K,h=>by
   obtain ⟨c,h1,h2⟩:=zL (cs:=r) (n:=n) h;exact ⟨c,by simpa using h1,h2⟩
noncomputable def Sn {α:Type} (n:Nat):List α->(List α->Prop)->Prop :=
 Nat.rec (motive:=λ_=>List α->(List α->Prop)->Prop) (λ_ K=>K []) (λ_ ih l=>List.rec (motive:=λ_=>(List α->Prop)->Prop) (λ_=>False) (λc r _ K=>ih r λl=>K (c :: l)) l) n
theorem vl {α:Type}:∀ {n:Nat} {cs:List α} {K:List α->Prop},Sn n cs K->n<=cs.length/\K (cs.take n)
 | 0,cs,K,h=>⟨by simp,by rw [zeO];exact h⟩
 | _+1,[],K,h=>h.elim
 | n+1,c :: r,K,h=>by
   obtain ⟨h1,h2⟩:=vl (n:=n) (cs:=r) h;exact ⟨by simp;omega,by simpa using h2⟩
noncomputable def Sq {α:Type} (n:Nat):List α->(List α->Prop)->Prop :=
 Nat.rec (motive:=λ_=>List α->(List α->Prop)->Prop) (λl K=>K l) (λ_ ih l=>List.rec (motive:=λ_=>(List α->Prop)->Prop) (λ_=>False) (λ_ r _ K=>ih r K) l) n
theorem vm {α:Type}:∀ {n:Nat} {cs:List α} {K:List α->Prop},Sq n cs K->n<=cs.length/\K (cs.drop n)
 | 0,cs,K,h=>⟨by simp,by rw [RI];exact h⟩
 | _+1,[],K,h=>h.elim
 | n+1,c :: r,K,h=>by
   obtain ⟨h1,h2⟩:=vm (n:=n) (cs:=r) h;exact ⟨by simp;omega,by simpa using h2⟩
noncomputable def Xb (cs:List AV):Nat->List AV->(List AV->Prop)->Prop :=
 List.rec (motive:=λ_=>Nat->List AV->(List AV->Prop)->Prop) (λ_ vs K=>List.rec (motive:=λ_=>Prop) (K []) (λ_ _ _=>False) vs)
  (λc r ih n vs=>List.rec (motive:=λ_=>(List AV->Prop)->Prop) (λK=>K (c :: r)) (λv Xc _=>Nat.rec (motive:=λ_=>(List AV->Prop)->Prop) (λK=>ih 0 Xc λl=>K (v :: l)) (λm _ K=>ih m (v :: Xc) λl=>K (c :: l)) n) vs) cs
def xl (cs:List AV) (n:Nat) (vs:List AV):List AV:=cs.take n++vs++cs.drop (n+vs.length)
theorem zM:∀ {cs:List AV} {n:Nat} {vs:List AV} {K:List AV->Prop},Xb cs n vs K->(vs=[]∨n+vs.length<=cs.length)/\K (xl cs n vs)
 | cs,n,[],K,h=>by
   refine ⟨.inl rfl,?_⟩;have:Xb cs n [] K=K cs:=by cases cs<;>cases n<;>rfl
   rw [this] at h;simpa [xl] using h
 | [],n,v :: vs,K,h=>by cases n<;>exact h.elim
 | c :: cs,n+1,v :: vs,K,h=>by
   obtain ⟨h1,h2⟩:=zM (cs:=cs) (n:=n) (vs:=v :: vs) h;refine ⟨.inr ?_,?_⟩
   ·rcases h1 with h1|h1
    ·cases h1
    ·simp at h1 ⊢;omega
   ·have e:n+1+(v :: vs).length=(n+(v :: vs).length)+1:=oM;simp only [xl] at h2 ⊢;rw [e,zdQ,ZG];simpa using h2
 | c :: cs,0,v :: vs,K,h=>by
   obtain ⟨h1,h2⟩:=zM (cs:=cs) (n:=0) (vs:=vs) h;refine ⟨.inr ?_,?_⟩
   ·rcases h1 with h1|h1
    ·subst h1;simp
    ·simp at h1 ⊢;omega
   ·simp only [xl,gP,zeO,tC] at h2 ⊢;simpa using h2
noncomputable def fC (cs:List AB):Nat->(AB->Prop)->Prop :=
 List.rec (motive:=λ_=>Nat->(AB->Prop)->Prop) (λ_ _=>False) (λc _ ih n=>Nat.rec (motive:=λ_=>(AB->Prop)->Prop) (λK=>K c) (λm _=>ih m) n) cs
theorem cq:∀ {cs:List AB} {n:Nat} {K:AB->Prop},fC cs n K->∃ c,cs[n]? = some c/\K c
 | [],_,_,h=>h.elim
 | c :: _,0,_,h=>⟨c,by simp,h⟩
 | _ :: r,n+1,K,h=>by
   obtain ⟨c,h1,h2⟩:=cq (cs:=r) (n:=n) h;exact ⟨c,by simpa using h1,h2⟩
noncomputable def kZ (cs:List AB):Nat->AB->(List AB->Prop)->Prop :=
 List.rec (motive:=λ_=>Nat->AB->(List AB->Prop)->Prop) (λ_ _ _=>False) (λc r ih n=>Nat.rec (motive:=λ_=>AB->(List AB->Prop)->Prop) (λx K=>K (x :: r)) (λm _ x K=>ih m x λl=>K (c :: l)) n) cs
theorem ew:∀ {cs:List AB} {n:Nat} {x:AB} {K:List AB->Prop},kZ cs n x K->K (cs.set n x)
 | [],_,_,_,h=>h.elim
 | c :: _,0,_,_,h=>by rw [WQ];exact h
 | c :: r,n+1,x,K,h=>by
   have:=ew (cs:=r) (n:=n) (x:=x) (K:=λl=>K (c :: l)) h;simpa using this
noncomputable def gU (cs:List AB):AB->Nat->(Nat->List AB->Prop)->Prop :=
 List.rec (motive:=λ_=>AB->Nat->(Nat->List AB->Prop)->Prop) (λx n K=>K n [x]) (λc _ ih x n K=>ih x (n+1) λi l=>K i (c :: l)) cs
theorem dA:∀ {cs:List AB} {x:AB} {n:Nat} {K:Nat->List AB->Prop},gU cs x n K->K (n+cs.length) (cs++[x])
 | [],_,_,_,h=>by simpa [gU] using h
 | c :: r,x,n,K,h=>by
   have:=dA (cs:=r) (x:=x) (n:=n+1) h;have e:n+1+r.length=n+(c :: r).length:=by simp;omega
   rw [e] at this;simpa using this
def Fq:TypeDesc->Bool
 | .struct _ | .array _ _=>true
 | _=>false
def lN (tt:TypeId->Option TI) (t:TypeId) (K:TI->Prop):Prop :=
 match tt t with
 | some i=>K i
 | none=>False
theorem bI {tt:TypeId->Option TI} {t:TypeId} {K:TI->Prop} (h:lN tt t K):∃ i,tt t=some i/\K i:=by
 unfold lN at h;split at h
 ·rename_i i hi;exact ⟨i,hi,h⟩
 ·exact h.elim
theorem xm {P:Program} {t:TypeId} {d:TypeDesc} (h:P.underlying t=some d) (w:World):(isAgg t).run P w = .ok (Fq d) w:=by
 unfold isAgg;simp only [Sem.run_bind,run_underlying h,Result.andThen_ok]
 cases d<;>rfl
theorem run_sizeOf {P:Program} {t:TypeId} {i:TypeInfo} (h:P.info? t=some i) (w:World):(sizeOf t).run P w = .ok i.size w:=by
 simp [sizeOf,typeInfo,h]
def yy (i:TI) (cs:List AV) (off:Nat) (K:AV->Prop):Prop :=
 match Fq i.desc with
 | true=>Sq off cs λr=>Sn i.size r λl=>K (.agg l)
 | false=>abl cs off K
theorem vn {P:Program} {tt:TypeId->Option TI} (ht:cp P tt) {t:TypeId} {i:TI} (hi:tt t=some i) {cs:List AV} {off:Nat} {K:AV->Prop} (h:yy i cs off K)
  {R:RC} {us:List Value} (hv:eK R cs us) {w:World} {b o:Nat} (hc:∀ j u,us[j]? = some u->w.cell? ⟨b,o+j,none⟩=some u) :
  ∃ v av,(loadVar t ⟨b,o+off,none⟩).run P w = .ok v w/\K av/\VR R av v:=by
 obtain ⟨hu,info,h1,h2,h3,h4⟩:=ht t i hi;unfold yy at h
 cases hd:Fq i.desc with
 | true =>
   rw [hd] at h;obtain ⟨hlen,h5⟩:=vm h;obtain ⟨aeO,h6⟩:=vl h5;have kQ:=vh i.size (vi off hv);refine ⟨.agg ((us.drop off).take i.size).toArray,_,?_,h6,?_⟩
   ·unfold loadVar;simp only [Sem.run_bind,xm hu,hd,Result.andThen_ok,Hm,run_sizeOf h1];have hl:((us.drop off).take i.size).length=i.size:=by
     have:=cH kQ;rw [this];simp at aeO ⊢;omega
    have:=run_loadCells_list (P:=P) w ⟨b,o+off,none⟩ ((us.drop off).take i.size) (λj v hj=>by
     rw [add_lit _ rfl];rw [nX] at hj;split at hj
     ·rw [Dt] at hj;have:=hc _ v hj;simpa [ZJ] using this
     ·cases hj)
    rw [hl] at this;rw [h3,this];simp
   ·simp only [VR];exact ⟨_,rfl,by simpa using kQ⟩
 | false =>
   rw [hd] at h;obtain ⟨c,h5,h6⟩:=zL h;obtain ⟨u,k1,k2,k3⟩:=Fh hv h5;refine ⟨u,c,?_,h6,k3⟩;unfold loadVar;simp only [Sem.run_bind,xm hu,hd,Result.andThen_ok];have:=hc off u k1;simp [this]
def aeP (L:List AB) (b:Nat) (cs:List DV):Prop:=∃ (m:Nat) (ab:AB),L[m]? = some ab/\(b,cs)∈ab.mI
def HB (i:TI) (L:List AB) (x:AV) (K:AV->Prop):Prop :=
 match x with
 | .ptr j off=>fC L j λab=>match ab with
   | .cells cs=>yy i cs off K
   | _=>False
 | .im cs off=>yy i (cs.map AV.d) off K
 | .ap j k off=>fC L j λab=>match ab with
   | .row _ _ xs _=>∃ cs,xs[k]? = some cs/\yy i (cs.map AV.d) off K
   | _=>False
 | .mp _ b off=>∃ cs,aeP L b cs/\yy i (cs.map AV.d) off K
 | _=>False
theorem yz {α:Type} (n:Nat):∀ {xs:List (List α)},(∀ cs∈xs,cs.length=n)->∀ {k:Nat} {cs:List α},xs[k]? = some cs->(xs.flatten.drop (k * n)).take n=cs
 | [],_,k,cs,h=>by simp at h
 | c :: xs,hn,k,cs,h=>by
   have hc:c.length=n:=hn c (by simp)
   cases k with
   | zero=>simp at h;subst h;rw [Nat.zero_mul,RI,va,<-hc,ze2]
   | succ k =>
     simp only [ue] at h;have:=yz n (λc' kc=>hn c' (by simp [kc])) h;rw [va];have e:(k+1) * n=c.length+k * n:=by rw [qu,hc];omega
     rw [e,ze3];simp only [zeI];rw [zfF (oM:c.length<=c.length+k * n),tC];exact this
theorem mL {α:Type} (n:Nat):∀ {xs:List (List α)},(∀ cs∈xs,cs.length=n)->xs.flatten.length=xs.length * n
 | [],_=>by simp
 | c :: xs,hn=>by
   have:=mL n (xs:=xs) (λc' kc=>hn c' (by simp [kc]));rw [va,iQ,this,hn c (by simp),CE,qu];omega
theorem HC {P:Program} {tt:TypeId->Option TI} (ht:cp P tt) {t:TypeId} {i:TI} (hi:tt t=some i) {c:Ctx} {E:Nat->Option Nat} {L:List AB} {w:World} (hs:aI c E L w)
  {x:AV} {K:AV->Prop} (h:HB i L x K) {v:Value} (hv:VR (aj c.M0 E L w) x v) :
  ∃ r av,(Instr.loadAt t v).run P w = .ok r w/\K av/\VR (aj c.M0 E L w) av r:=by
 cases x<;>simp only [HB] at h<;>first|exact h.elim|skip
 case ptr j off =>
  simp only [VR] at hv;obtain ⟨b,⟨bQ,eY,_,hE⟩,rfl⟩:=hv;obtain ⟨ab,bC,h2⟩:=cq h
  cases ab with
  | cells cs =>
    obtain ⟨b',cur,e,kg,hh,kQ⟩:=hs.fQ j _ bC;rw [hE] at kg;cases kg
    obtain ⟨r,av,k1,k2,k3⟩:=vn (w:=w) (b:=b) (o:=0) ht hi h2 kQ (λm u hm=>by
     rw [gP,cell_of_row w b m cur e (0,0) hh];simpa using hm)
    rw [gP] at k1;exact ⟨r,av,by simpa [Instr.loadAt,Instr.sureAddr] using k1,k2,k3⟩
  | _=>exact h2.elim
 case im cs off =>
  simp only [VR] at hv;obtain ⟨a,rfl,gK,hlen,Sr⟩:=hv;obtain ⟨us,k1,k2⟩:=vj Sr gK;obtain ⟨r,av,k3,k4,k5⟩:=vn (w:=w) (b:=a.block) (o:=a.off) ht hi h (tD.2 k1:eK (aj c.M0 E L w) (cs.map AV.d) us) (λm u hm=>(f_ (k2 m u hm) rfl).1);exact ⟨r,av,by simpa [Instr.loadAt,Instr.sureAddr] using k3,k4,k5⟩
 case ap j k off =>
  simp only [VR] at hv;obtain ⟨bQ,eY,hrel⟩:=hv;obtain ⟨ab,bC,h2⟩:=cq h;rw [bC] at eY;cases eY
  cases bQ with
  | row e n xs sh =>
    obtain ⟨cs,ck,h3⟩:=h2;obtain ⟨b,hE,rfl⟩:=hrel;obtain ⟨hn,hlen,fy⟩:=hs.fQ j _ bC;rw [hE] at fy;obtain ⟨cap,cur,hh,da,eX,jG,kQ⟩:=fy;have hk:k<xs.length:=(dW.1 ck).1;have aeQ:=gJ n (kP (k * n) kQ);rw [yz n hlen ck] at aeQ;obtain ⟨r,av,k1,k2,k3⟩:=vn (w:=w) (b:=b) (o:=k * n) ht hi h3 (tD.2 aeQ:eK (aj c.M0 E L w) (cs.map AV.d) _) (λm u hm=>by
     rw [cell_of_row w b _ cur e (0,0) hh];rw [nX] at hm;split at hm
     ·rw [Dt,nX] at hm;split at hm
      ·simpa using hm
      ·cases hm
     ·cases hm)
    exact ⟨r,av,by simpa [Instr.loadAt,Instr.sureAddr] using k1,k2,k3⟩
  | _=>exact h2.elim
 case mp j b off =>
  simp only [VR] at hv;subst hv;obtain ⟨cs,⟨m,ab,hm,hb⟩,h2⟩:=h;obtain ⟨cur,e,hh,kQ⟩:=(hs.fQ m ab hm).box hb;obtain ⟨r,av,k1,k2,k3⟩:=vn (w:=w) (b:=b) (o:=0) ht hi h2 (tD.2 kQ:eK (aj c.M0 E L w) (cs.map AV.d) _) (λm u hm=>by
    rw [gP,cell_of_row w b m cur e (0,0) hh];simpa using hm)
  rw [gP] at k1;exact ⟨r,av,by simpa [Instr.loadAt,Instr.sureAddr] using k1,k2,k3⟩
def qw:AV->Bool
 | .agg _ | .tup _ | .d .any=>false
 | _=>true
theorem Au {M0:MZ} {E:Nat->Option Nat} {L:List AB} {w:World} {x:AV} {v:Value} (h:qw x=true) (hv:VR (aj M0 E L w) x v):v.oneCell'=true:=by
 cases x<;>simp only [VR] at hv
 case d x =>
  cases x<;>simp only [VD] at hv<;>first
   | (subst hv;rfl)
   | (cases h;done)
   | skip
  all_goals (obtain ⟨_,a,cap,rfl,_⟩:=hv;rfl)
 case arr i=>obtain ⟨ab,_,hr⟩:=hv;obtain ⟨p,l,k,rfl⟩:=kY hr;rfl
 case ptr i o=>obtain ⟨b,_,rfl⟩:=hv;rfl
 case ap i j o=>obtain ⟨ab,_,hr⟩:=hv;obtain ⟨p,rfl⟩:=iH hr;rfl
 case im cs o=>obtain ⟨b,rfl,_⟩:=hv;rfl
 case map i=>obtain ⟨b,_,rfl⟩:=hv;rfl
 case mp i b o=>subst hv;rfl
 case agg cs=>cases h
 case tup cs=>cases h
 case fn f cs=>obtain ⟨us,rfl,_⟩:=hv;rfl
 case sub i n=>obtain ⟨p,cap,rfl,_⟩:=hv;rfl
 case isl i x=>exact hv.2
def cellsOf (x:AV):List AV :=
 match x with
 | .agg cs=>cs
 | .tup _ | .d .any=>[]
 | x=>[x]
theorem fg {M0:MZ} {E:Nat->Option Nat} {L:List AB} {w:World} {x:AV} {v:Value} (ef:cellsOf x≠[]∨∃ cs,x = .agg cs) (hv:VR (aj M0 E L w) x v):eK (aj M0 E L w) (cellsOf x) v.cells.toList:=by
 cases hx:qw x with
 | true =>
   have h1:=Au hx hv;have e1:cellsOf x=[x]:=by
    cases x<;>first|rfl|cases hx|skip
    rename_i x
    cases x<;>first|rfl|cases hx
   have e2:v.cells = #[v]:=by cases v<;>first|rfl|(simp [Value.oneCell'] at h1)
   rw [e1,e2];simp only [eK];exact ⟨v,[],rfl,h1,hv,rfl⟩
 | false =>
   cases x with
   | agg cs =>
     simp only [VR] at hv;obtain ⟨us,rfl,h⟩:=hv;exact h
   | tup vs=>simp [cellsOf] at ef
   | d x =>
     cases x with
     | any=>simp [cellsOf] at ef
     | _=>cases hx
   | _=>cases hx
def K7:AV->Bool | .agg _=>true|_=>false
def iZ (size:Nat) (x:AV):Bool:=Nat.beq (cellsOf x).length size&&(K7 x || !(Nat.beq (cellsOf x).length 0))
theorem ko {size:Nat} {x:AV} (h:iZ size x=true):(cellsOf x).length=size/\(cellsOf x≠[]∨∃ cs,x = .agg cs):=by
 simp only [iZ,oB,zeQ] at h;refine ⟨ie h.1,?_⟩;rcases h.2 with h2|h2
 ·cases x with
  | agg cs=>exact .inr ⟨_,rfl⟩
  | _=>cases h2
 ·refine .inl ?_;intro e;rw [e] at h2
  cases h2
def K8 (x:AV) (L:List AB) (K:DV->List AB->Prop):Prop :=
 match x with
 | .d x=>K x L
 | .arr j=>fC L j λab=>match ab with
   | .row e n xs _=>kZ L j (.row e n xs true) λL'=>K (.sl n xs) L'
   | _=>False
 | _=>False
theorem zN {c:Ctx} (hc:c.wf) {E:Nat->Option Nat} {L:List AB} {w:World} (hs:aI c E L w) {x:AV} {K:DV->List AB->Prop} (h:K8 x L K) {v:Value} (hv:VR (aj c.M0 E L w) x v) :
  ∃ d L',K d L'/\L'.length=L.length/\aI c E L' w/\(aj c.M0 E L w).le (aj c.M0 E L' w)/\VD (aj c.M0 E L' w).rd d v:=by
 cases x<;>first|exact h.elim|skip
 case d x=>exact ⟨x,L,h,rfl,hs,.refl _,by simpa [VR] using hv⟩
 case arr j =>
  obtain ⟨ab,bC,h1⟩:=cq h
  cases ab<;>simp only at h1<;>first|exact h1.elim|skip
  obtain ⟨bP,hle,n_⟩:=hs.close hc bC;exact ⟨_,_,ew h1,by simp,bP,hle,by simpa [VR] using n_ v hv⟩
def nC (x:DV):DV :=
 match x with
 | .nils => .sl 1 []
 | x=>x
theorem HD {rd:Addr->Value->Prop} {x:DV} {v:Value} (h:VD rd x v):VD rd (nC x) v:=by
 cases x<;>first|exact h|skip
 simp only [VD] at h;subst h;simp only [nC,VD];exact ⟨by simp,none,0,rfl,by simp,by simp [maxLen],λ_=>rfl,(λ_ h=>by cases h)⟩
theorem Dx {rd:Addr->Value->Prop}:∀ {xs:List DV} {us:List Value},cR rd xs us->cR rd (xs.map nC) us
 | [],us,h=>h
 | x :: xs,us,h=>by
   simp only [cR,Cs,Dv] at h ⊢;obtain ⟨u,dt,e,h0,h1,h2⟩:=h;exact ⟨u,dt,e,h0,HD h1,Dx h2⟩
def K9 (x:DV) (K:DV->Prop):Prop :=
 match x with
 | .nils=>K (.sl 1 [])
 | x=>K x
theorem Py {x:DV} {K:DV->Prop} (h:K9 x K):K (nC x):=by cases x<;>exact h
def eN (cs:List DV) (n:Nat) (vs:List DV):List DV:=cs.take n++vs++cs.drop (n+vs.length)
theorem Av {b:Nat} {cs:List DV}:∀ {es:List (KV×MV)},b∉bg es->th b cs es=es
 | [],_=>rfl
 | (k,.box b' c) :: r,h=>by
   simp only [bg,jy,CO] at h;simp only [th]
   cases hb:Nat.beq b' b with
   | true=>exact absurd (ie hb).symm h.1
   | false=>simp only [py,Av h.2]
 | (k,.v x) :: r,h=>by
   simp only [bg] at h;simp only [th,Av h]
theorem Fs {b:Nat} {cs c:List DV} {k:KV}:∀ {es:List (KV×MV)} {i:Nat},(bg es).Nodup->es[i]? = some (k,.box b c)->th b cs es=es.set i (k,.box b cs)/\(b,c)∈iY es
 | [],i,_,h=>by simp at h
 | (k',.box b' c') :: r,i,hn,h=>by
   simp only [bg,Pw] at hn
   cases i with
   | zero =>
     simp at h;obtain ⟨rfl,rfl,rfl⟩:=h;simp only [th,Sc,jB,WQ,Av hn.1,iY];exact ⟨trivial,by simp⟩
   | succ i =>
     simp only [ue] at h;obtain ⟨h1,h2⟩:=Fs (cs:=cs) hn.2 h;have hb:b'≠b:=by rintro rfl;exact hn.1 (lX h2)
     have Fm:Nat.beq b' b=false:=by
      cases hq:Nat.beq b' b with
      | true=>exact absurd (ie hq) hb
      | false=>rfl
     simp only [th,Fm,py,zdU,h1,iY];exact ⟨trivial,by simp [h2]⟩
 | (k',.v x) :: r,i,hn,h=>by
   simp only [bg] at hn
   cases i with
   | zero=>simp at h
   | succ i =>
     simp only [ue] at h;obtain ⟨h1,h2⟩:=Fs (cs:=cs) hn h;simp only [th,zdU,h1,iY];exact ⟨trivial,h2⟩
def K_ (i:TI) (L:List AB) (x v:AV) (K:List AB->Prop):Prop :=
 bif iZ i.size v then
  match x with
  | .ptr j off=>fC L j λab=>match ab with
    | .cells cs=>Xb cs off (cellsOf v) λcs'=>kZ L j (.cells cs') K
    | _=>False
  | .mp _ b off=>bif qw v then K8 v L λd L'=>(∃ (m:Nat) (es:List (KV×MV)) (i:Nat) (k:KV) (cs:List DV),L'[m]? = some (.map es)/\es[i]? = some (k,.box b cs)/\off<cs.length/\∀ lB,lB=L'.set m (.map (es.set i (k,.box b (eN cs off [nC d]))))->K lB)∨(∃ (m:Nat) (cs:List DV),L'[m]? = some (.cK b cs)/\off<cs.length/\∀ lB,lB=L'.set m (.cK b (eN cs off [nC d]))->K lB) else False
  | _=>False
 else False
theorem Pz {P:Program} {tt:TypeId->Option TI} (ht:cp P tt) {t:TypeId} {i:TI} (hi:tt t=some i) {c:Ctx} (hc:c.wf) {E:Nat->Option Nat} {L:List AB} {w:World} (hs:aI c E L w)
  {x v:AV} {K:List AB->Prop} (h:K_ i L x v K) {p u:Value} (hp:VR (aj c.M0 E L w) x p) (hu:VR (aj c.M0 E L w) v u) :
  ∃ w' L',(Instr.storeAt t p u).run P w = .ok () w'/\K L'/\aI c E L' w'/\(aj c.M0 E L w).le (aj c.M0 E L' w'):=by
 unfold K_ at h
 cases da:iZ i.size v with
 | false=>rw [da] at h;exact h.elim
 | true =>
   rw [da] at h;simp only [jB] at h;obtain ⟨hlen,ef⟩:=ko da;have ck:=fg ef hu;obtain ⟨Aw,info,k1,k2,k3,k4⟩:=ht t i hi
   cases x<;>first|exact h.elim|skip
   case ptr j off =>
    simp only [VR] at hp;obtain ⟨b,⟨bQ,eY,_,hE⟩,rfl⟩:=hp;obtain ⟨ab,bC,h2⟩:=cq h
    cases ab with
    | cells cs =>
      obtain ⟨tG,h3⟩:=zM h2;have h4:=ew h3;obtain ⟨b',cur,e,kg,hh,kQ⟩:=hs.fQ j _ bC;rw [hE] at kg;cases kg
      have pM:u.cells.toList.length=(cellsOf v).length:=cH ck;have bR:cur.toList.length=cs.length:=cH kQ;by_cases nw:cellsOf v=[]
      · -- nothing is written
        have hu0:u.cells.toList=[]:=oy (by rw [pM,nw];rfl);have hL:xl cs off (cellsOf v)=cs:=by rw [nw];simp [xl]
        rw [hL] at h4;have hLs:L.set j (.cells cs)=L:=by
         apply WS;intro m;by_cases RK:m=j
         ·subst RK;rw [aD bC,bC]
         ·rw [al RK]
        rw [hLs] at h4;refine ⟨w,L,?_,h4,hs,RC.le.refl _⟩;have hz:i.size=0:=by rw [<-hlen,nw];rfl
        have zO:u.cells.size=0:=by rw [<-lU,hu0];rfl
        simp only [Instr.storeAt,Instr.sureAddr,storeVar,Sem.run_bind,Sem.run_pure,Result.andThen_ok,run_sizeOf k1,k3,hz,zO,hu0];rfl
      ·have aeR:off+(cellsOf v).length<=cs.length:=by
        rcases tG with h|h
        ·exact absurd h nw
        ·exact h
       have vo:=run_storeCells_at P b off e u.cells.toList 0 cur w hh (by rw [pM,<-lU,bR];omega) (Nx ck);simp only [RJ] at vo;have j7:eK (aj c.M0 E L w) (xl cs off (cellsOf v)) (cur.toList.take off++u.cells.toList++cur.toList.drop (off+u.cells.toList.length)):=by
        unfold xl;rw [pM];exact pI (pI (vh off kQ) ck) (vi _ kQ)
       obtain ⟨bP,hle⟩:=hs.store bC hE hh (cs':=xl cs off (cellsOf v)) (cur':=(cur.toList.take off++u.cells.toList++cur.toList.drop (off+u.cells.toList.length)).toArray) (by simpa using j7) (by simp [xl];omega);refine ⟨_,_,?_,h4,bP,hle⟩;have zO:u.cells.size=i.size:=by rw [<-lU,pM,hlen]
       simp only [Instr.storeAt,Instr.sureAddr,storeVar,Sem.run_bind,Sem.run_pure,Result.andThen_ok,run_sizeOf k1,k3,zO];rw [aR (by simp)];exact vo
    | _=>exact h2.elim
   case mp j b off =>
    simp only [VR] at hp;subst hp;simp only at h
    cases Ss:qw v with
    | false=>rw [Ss] at h;exact h.elim
    | true =>
      rw [Ss] at h;simp only [jB] at h;obtain ⟨d,L',h1,_,dR,eX,hd⟩:=zN hc hs h hu;have h1:∃ (m:Nat) (ab:AB) (cs:List DV),L'[m]? = some ab/\(b,cs)∈ab.mI/\off<cs.length/\∀ lB,lB=L'.set m (ab.gb b (eN cs off [nC d]))->K lB:=by
       rcases h1 with ⟨m,es,i,k,cs,h1,h2,h3,h4⟩|⟨m,cs,h1,h2,h3⟩
       ·obtain ⟨q1,q2⟩:=Fs (cs:=eN cs off [nC d]) (dR.bx.nd m _ h1) h2;exact ⟨m,.map es,cs,h1,q2,h3,λlB hL=>h4 lB (by rw [hL];simp only [AB.gb,q1])⟩
       ·exact ⟨m,.cK b cs,cs,h1,by simp [AB.mI],h2,λlB hL=>h3 lB (by rw [hL];simp [AB.gb])⟩
      obtain ⟨m,ab,cs,hm,hb,alM,hK⟩:=h1;obtain ⟨cur,e,hh,kQ⟩:=(dR.fQ m ab hm).box hb;have bR:cur.toList.length=cs.length:=ed kQ;have zO:=Au Ss hu;have e2:u.cells = #[u]:=by cases u<;>first|rfl|(simp [Value.oneCell'] at zO)
      have e1:cellsOf v=[v]:=by
       cases v<;>first|rfl|cases Ss|skip
       rename_i x
       cases x<;>first|rfl|cases Ss
      have j8:i.size=1:=by rw [<-hlen,e1];rfl
      have vo:=run_storeCells_at P b off e [u] 0 cur w hh (by rw [<-lU,bR];simp;omega) (by simpa using zO);simp only [RJ] at vo;have j7:cR (aj c.M0 E L' w).rd (eN cs off [nC d]) (cur.toList.take off++[u]++cur.toList.drop (off+1)):=by
       unfold eN;exact cf (cf (gJ off kQ) (by simp only [Cs];exact ⟨u,[],rfl,zO,HD hd,rfl⟩)) (kP _ kQ)
      obtain ⟨bP,hle⟩:=dR.Sk hm hb hh (cs':=eN cs off [nC d]) (cur':=(cur.toList.take off++[u]++cur.toList.drop (off+1)).toArray) (by have:cur.toList.length=cur.size:=lU;simp;omega) (by simpa using j7);refine ⟨_,_,?_,hK _ rfl,bP,eX.trans hle⟩;simp only [Instr.storeAt,Instr.sureAddr,storeVar,Sem.run_bind,Sem.run_pure,Result.andThen_ok,run_sizeOf k1,k3,e2,j8];rw [aR (by simp)];simpa using vo
def oD (fs:List Field) (k:Nat):Option (Nat×Nat) :=
 match fs,k with
 | [],_=>none
 | f :: _,0=>some (f.offset,f.type)
 | _ :: r,k+1=>oD r k
theorem nD:∀ {fs:List Field} {k:Nat} {o t:Nat},oD fs k=some (o,t)->∃ f,fs[k]? = some f/\f.offset=o/\f.type=t
 | [],_,_,_,h=>by cases h
 | f :: _,0,o,t,h=>by simp [oD] at h;exact ⟨f,by simp,h⟩
 | _ :: r,k+1,o,t,h=>by
   obtain ⟨f,h1,h2⟩:=nD (fs:=r) h;exact ⟨f,by simpa using h1,h2⟩
def iJ:TypeDesc->List Field
 | .struct fs=>fs.toList
 | _=>[]
def Ax (tt:TypeId->Option TI) (s:TypeId) (k:Nat) (L:List AB) (x:AV) (K:AV->Prop):Prop :=
 lN tt s λi=>match oD (iJ i.desc) k with
  | some (o,t)=>lN tt t λit=>bif Nat.beq it.size 0 then False else
    match x with
    | .ptr j off=>K (.ptr j (off+o))
    | .im cs off=>bif Nat.ble (off+o) cs.length then K (.im cs (off+o)) else False
    | .ap j m off=>fC L j λab=>bif AB.live ab then K (.ap j m (off+o)) else False
    | .mp j b off=>K (.mp j b (off+o))
    | _=>False
  | none=>False
theorem CS {P:Program} {tt:TypeId->Option TI} (ht:cp P tt) {s:TypeId} {k:Nat} {c:Ctx} {E:Nat->Option Nat} {L:List AB} {w:World}
  {x:AV} {K:AV->Prop} (h:Ax tt s k L x K) {v:Value} (hv:VR (aj c.M0 E L w) x v) :
  ∃ r av,(Instr.fieldAt s v k).run P w = .ok r w/\K av/\VR (aj c.M0 E L w) av r:=by
 obtain ⟨i,hi,h1⟩:=bI h;split at h1
 ·rename_i o t hf;obtain ⟨f,RL,rfl,rfl⟩:=nD hf;obtain ⟨it,ZO,h2⟩:=bI h1
  cases hz:Nat.beq it.size 0 with
  | true=>rw [hz] at h2;exact h2.elim
  | false =>
    rw [hz] at h2;simp only [py] at h2;obtain ⟨hu,info,k1,k2,k3,k4⟩:=ht s i hi;obtain ⟨Aw,St,k1',k2',k3',k4'⟩:=ht f.type it ZO;have ef:St.size≠0:=by rw [k3'];intro e;rw [e] at hz;cases hz
    cases hd:i.desc with
    | struct fs =>
      rw [hd] at hu RL;have hf2:fs[k]? = some f:=by simpa [iJ] using RL
      have key:∀ a:Addr,a.spot=none->(Instr.fieldAt s (.pointer (some a)) k).run P w = .ok (.pointer (some ⟨a.block,a.off+f.offset,none⟩)) w:=by
       intro a ha;simp only [Instr.fieldAt,Sem.run_bind,run_underlying hu,Result.andThen_ok,hf2,Instr.sureAddr,fieldPlace,Sem.run_pure,run_sizeOf k1',ef,if_false];rw [add_lit a ha]
      cases x<;>first|exact h2.elim|skip
      case ptr j off =>
       simp only [VR] at hv;obtain ⟨b,hb,rfl⟩:=hv;exact ⟨_,_,key _ rfl,h2,by simp only [VR];exact ⟨b,hb,rfl⟩⟩
      case im cs off =>
       simp only [VR] at hv;obtain ⟨a,rfl,gK,hlen,Sr⟩:=hv;replace h2:(bif Nat.ble (off+f.offset) cs.length then K (.im cs (off+f.offset)) else False):=h2
       cases Lb:Nat.ble (off+f.offset) cs.length with
       | false=>rw [Lb] at h2;exact h2.elim
       | true =>
         rw [Lb] at h2;exact ⟨_,_,key _ rfl,h2,by simp only [VR];exact ⟨a,by simp [ZJ],gK,Hh Lb,Sr⟩⟩
      case ap j m off =>
       simp only [VR] at hv;obtain ⟨ab,bC,hr⟩:=hv;obtain ⟨bQ,eY,h3⟩:=cq h2;rw [bC] at eY;cases eY
       cases ab with
       | cells cs=>exact hr.elim
       | row e n xs sh =>
         obtain ⟨b,hb,rfl⟩:=hr;exact ⟨_,_,key _ rfl,h3,by simp only [VR];exact ⟨_,bC,b,hb,by simp [ZJ]⟩⟩
       | map es=>exact hr.elim
       | cK b cs=>exact hr.elim
       | obj o=>exact hr.elim
       | qJ o n cap=>exact hr.elim
       | aN lo n ok=>exact hr.elim
       | dead=>exact h3.elim
      case mp j b off =>
       simp only [VR] at hv;subst hv;exact ⟨_,_,key _ rfl,h2,by simp [VR,ZJ]⟩
    | _=>rw [hd] at RL;simp [iJ] at RL
 ·exact h1.elim
end
noncomputable section
open Go.RowKit
def HE (x:AV) (k:Nat) (K:AV->Prop):Prop :=
 match x with
 | .tup vs=>abl vs k K
 | _=>False
theorem NB {R:RC}:∀ {xs:List AV} {us:List Value},cD R xs us->∀ {i:Nat} {x:AV},xs[i]? = some x->∃ u,us[i]? = some u/\VR R x u
 | [],us,h,i,x,hx=>by simp at hx
 | y :: xs,us,h,i,x,hx=>by
   simp only [cD] at h;obtain ⟨u,dt,rfl,h1,h2⟩:=h
   cases i with
   | zero=>simp at hx;subst hx;exact ⟨u,by simp,h1⟩
   | succ i=>simp only [ue] at hx ⊢;exact NB h2 hx
theorem HF {P:Program} {w:World} {x:AV} {k:Nat} {K:AV->Prop} (h:HE x k K) {R:RC} {v:Value} (hv:VR R x v) :
  ∃ r av,(Instr.extract v k).run P w = .ok r w/\K av/\VR R av r:=by
 cases x<;>first|exact h.elim|skip
 case tup vs =>
  simp only [VR] at hv;obtain ⟨us,rfl,hvt⟩:=hv;obtain ⟨c,h1,h2⟩:=zL h;obtain ⟨u,k1,k2⟩:=NB hvt h1;refine ⟨u,c,?_,h2,k2⟩;have:us[k]? = some u:=by simpa using k1
  simp [Instr.extract,this]
def Su (tt:TypeId->Option TI) (s:TypeId) (k:Nat) (x:AV) (K:AV->Prop):Prop :=
 lN tt s λi=>match oD (iJ i.desc) k with
  | some (o,t)=>lN tt t λit=>match x with
    | .agg cs=>yy it cs o K
    | _=>False
  | none=>False
theorem PA {P:Program} {tt:TypeId->Option TI} (ht:cp P tt) {w:World} {s:TypeId} {k:Nat} {x:AV} {K:AV->Prop} (h:Su tt s k x K) {R:RC} {v:Value} (hv:VR R x v) :
  ∃ r av,(Instr.field s v k).run P w = .ok r w/\K av/\VR R av r:=by
 obtain ⟨i,hi,h1⟩:=bI h;split at h1
 ·rename_i o t hf;obtain ⟨f,RL,rfl,rfl⟩:=nD hf;obtain ⟨it,ZO,h2⟩:=bI h1;obtain ⟨hu,info,k1,k2,k3,k4⟩:=ht s i hi;obtain ⟨Aw,St,k1',k2',k3',k4'⟩:=ht f.type it ZO
  cases hd:i.desc with
  | struct fs =>
    rw [hd] at hu RL;have hf2:fs[k]? = some f:=by simpa [iJ] using RL
    cases x<;>first|exact h2.elim|skip
    case agg cs =>
     simp only [VR] at hv;obtain ⟨us,rfl,kQ⟩:=hv;have e0:(Instr.field s (.agg us) k).run P w=(part f.type us f.offset).run P w:=by
      simp [Instr.field,run_underlying hu,hf2,asAgg]
     rw [e0];simp only at h2;unfold yy at h2;unfold part;simp only [Sem.run_bind,xm Aw,Result.andThen_ok]
     cases hda:Fq it.desc with
     | true =>
       rw [hda] at h2;obtain ⟨h3,h4⟩:=vm h2;obtain ⟨h5,h6⟩:=vl h4;refine ⟨.agg (us.extract f.offset (f.offset+St.size)),_,?_,h6,?_⟩
       ·simp [run_sizeOf k1']
       ·simp only [VR];refine ⟨_,rfl,?_⟩;have:=vh it.size (vi f.offset kQ);rw [k3'];simpa [Array.toList_extract,List.extract_eq_take_drop] using this
     | false =>
       rw [hda] at h2;obtain ⟨c,h3,h4⟩:=zL h2;obtain ⟨u,l1,l2,l3⟩:=Fh kQ h3;refine ⟨u,c,?_,h4,l3⟩;have:us[f.offset]? = some u:=by simpa using l1
       simp [this]
  | _=>rw [hd] at RL;simp [iJ] at RL
 ·exact h1.elim
def Dy (x:AV) (K:AV->Prop):Prop :=
 match x with
 | .ptr i o=>K (.ptr i o)
 | .im cs o=>K (.im cs o)
 | .mp i b o=>K (.mp i b o)
 | _=>False
theorem Ft {x:AV} {K:AV->Prop} (h:Dy x K) {R:RC} {v:Value} (hv:VR R x v):∃ a,v = .pointer (some a)/\K x:=by
 cases x<;>first|exact h.elim|skip
 case ptr i o=>simp only [VR] at hv;obtain ⟨b,_,rfl⟩:=hv;exact ⟨_,rfl,h⟩
 case im cs o=>simp only [VR] at hv;obtain ⟨b,rfl,_⟩:=hv;exact ⟨_,rfl,h⟩
 case mp i b o=>simp only [VR] at hv;exact ⟨_,hv,h⟩
def jI:TypeDesc->Bool | .string=>true|_=>false
def bY:TypeDesc->Option Nat | .slice e=>some e|_=>none
def k_:TypeDesc->Bool | .slice _=>true|_=>false
def NC (L:List AB) (d:TypeDesc) (x:AV) (K:AV->Prop):Prop :=
 match x with
 | .d (.str s)=>bif jI d then K (.k s.size) else False
 | .d .nils=>bif k_ d then K (.k 0) else False
 | .d (.sl _ xs)=>bif k_ d then K (.k xs.length) else False
 | .d (.slo _ xs)=>bif k_ d then K (.k xs.length) else False
 | .arr j=>bif k_ d then fC L j λab=>match ab with
   | .row _ _ xs _=>K (.k xs.length)
   | .cells cs=>K (.k cs.length)
   | _=>False
   else False
 | _=>False
theorem Xd {c:Ctx} {E:Nat->Option Nat} {L:List AB} {w:World} (hs:aI c E L w) {j e n:Nat} {xs:List (List DV)} {sh:Bool} (hj:L[j]? = some (.row e n xs sh)) {v:Value}
  (hv:VR (aj c.M0 E L w) (.arr j) v):∃ p k,v = .slice p xs.length k:=by
 simp only [VR] at hv;obtain ⟨ab,bC,hr⟩:=hv;rw [hj] at bC;cases bC
 simp only [bj] at hr;have fy:=(hs.fQ j _ hj).2.2
 cases hE:E j with
 | none=>rw [hE] at hr fy;simp only at hr fy;exact ⟨_,_,by rw [hr,fy];rfl⟩
 | some b=>rw [hE] at hr;obtain ⟨cap,cur,h,_⟩:=hr;exact ⟨_,_,h⟩
theorem Sv {P:Program} {tt:TypeId->Option TI} (ht:cp P tt) {t:TypeId} {i:TI} (hi:tt t=some i) {c:Ctx} {E:Nat->Option Nat} {L:List AB} {w:World} (hs:aI c E L w)
  {x:AV} {K:AV->Prop} (h:NC L i.desc x K) {v:Value} (hv:VR (aj c.M0 E L w) x v) (ts:Array TypeId) (ty:TypeId) (j9:ts[0]? = some t) :
  ∃ z,(Builtin.len_ ts ty #[v]).run P w = .ok (.j z) w/\K (.k z):=by
 obtain ⟨hu,_⟩:=ht t i hi
 cases x<;>first|exact h.elim|skip
 case d x =>
  cases x<;>simp only [NC] at h<;>first|exact h.elim|skip
  case str s =>
   simp only [VR,VD] at hv;subst hv
   cases hd:i.desc<;>rw [hd] at h hu<;>simp only [jI,py,jB] at h<;>first|exact h.elim|skip
   exact ⟨_,by simp [Builtin.len_,j9,run_underlying hu,goInt],h⟩
  case nils =>
   simp only [VR,VD] at hv;subst hv
   cases hd:i.desc<;>rw [hd] at h hu<;>simp only [k_,py,jB] at h<;>first|exact h.elim|skip
   exact ⟨0,by simp [Builtin.len_,j9,run_underlying hu,goInt],h⟩
  case sl n xs =>
   simp only [VR,VD] at hv;obtain ⟨_,p,cap,rfl,_⟩:=hv
   cases hd:i.desc<;>rw [hd] at h hu<;>simp only [k_,py,jB] at h<;>first|exact h.elim|skip
   exact ⟨_,by simp [Builtin.len_,j9,run_underlying hu,goInt],h⟩
  case slo n xs =>
   simp only [VR,VD] at hv;obtain ⟨_,p,cap,rfl,_⟩:=hv
   cases hd:i.desc<;>rw [hd] at h hu<;>simp only [k_,py,jB] at h<;>first|exact h.elim|skip
   exact ⟨_,by simp [Builtin.len_,j9,run_underlying hu,goInt],h⟩
 case arr j =>
  simp only [NC] at h
  cases hd:i.desc<;>rw [hd] at h hu<;>simp only [k_,py,jB] at h<;>first|exact h.elim|skip
  obtain ⟨ab,bC,h2⟩:=cq h
  cases ab<;>simp only at h2<;>first|exact h2.elim|skip
  ·simp only [VR] at hv;obtain ⟨bQ,eY,hr⟩:=hv;rw [bC] at eY;cases eY
   obtain ⟨b,_,rfl⟩:=hr;exact ⟨_,by simp [Builtin.len_,j9,run_underlying hu,goInt],h2⟩
  obtain ⟨p,k,rfl⟩:=Xd hs bC hv;exact ⟨_,by simp [Builtin.len_,j9,run_underlying hu,goInt],h2⟩
def uj (tt:TypeId->Option TI) (t:TypeId) (L:List AB) (x ix:AV) (K:AV->Prop):Prop :=
 match ix with
 | .d (.int _ z)=>lN tt t λi=>match bY i.desc with
   | some e=>lN tt e λei=>match x with
     | .d (.sl n xs)=>bif Nat.beq ei.size n then 0<=z/\∃ cs,xs[z.toNat]? = some cs/\K (.im cs 0) else False
     | .d (.slo n xs)=>bif Nat.beq ei.size n then 0<=z/\∃ cs,xs[z.toNat]? = some cs/\K (.im cs 0) else False
     | .arr j=>fC L j λab=>match ab with
       | .row _ n xs _=>bif Nat.beq ei.size n then 0<=z/\z.toNat<xs.length/\K (.ap j z.toNat 0) else False
       | .cells cs=>bif Nat.beq ei.size 1 then 0<=z/\z.toNat<cs.length/\K (.ptr j z.toNat) else False
       | _=>False
     | _=>False
   | none=>False
 | _=>False
theorem rq {P:Program} {w:World} {t e:TypeId} (hu:P.underlying t=some (.slice e)) {info:TypeInfo} (hi:P.info? e=some info) (a:Addr) (ha:a.spot=none) (len cap:Nat) (k:IntKind) (z:Int) (h0:0<=z) (h1:z<len) :
  (Instr.indexAt t (.slice (some a) len cap) (.int k z)).run P w = .ok (.pointer (some ⟨a.block,a.off+z.toNat * info.size,none⟩)) w:=by
 simp only [Instr.indexAt,asIntOf,Sem.run_bind,Sem.run_pure,Result.andThen_ok,run_underlying hu];simp only [h0,h1,and_self,Hm,Sem.run_bind,run_sizeOf hi,Result.andThen_ok,Sem.run_pure];rw [add_lit a ha]
theorem CT {P:Program} {tt:TypeId->Option TI} (ht:cp P tt) {t:TypeId} {c:Ctx} {E:Nat->Option Nat} {L:List AB} {w:World} (hs:aI c E L w)
  {x ix:AV} {K:AV->Prop} (h:uj tt t L x ix K) {v u:Value} (hv:VR (aj c.M0 E L w) x v) (hu:VR (aj c.M0 E L w) ix u) :
  ∃ r av,(Instr.indexAt t v u).run P w = .ok r w/\K av/\VR (aj c.M0 E L w) av r:=by
 unfold uj at h;split at h
 ·rename_i k z;simp only [VR,VD] at hu;subst hu;obtain ⟨i,hi,h1⟩:=bI h;split at h1
  ·rename_i e he;obtain ⟨ei,iw,h2⟩:=bI h1;obtain ⟨jw,_⟩:=ht t i hi;obtain ⟨_,info,k1,k2,k3,k4⟩:=ht e ei iw;have hd:i.desc = .slice e:=by
    revert he
    cases i.desc<;>simp [bY]
   rw [hd] at jw
   cases x<;>first|exact h2.elim|skip
   case d x =>
    have ah6:∃ n xs,VR (aj c.M0 E L w) (.d (.slo n xs)) v/\(bif Nat.beq ei.size n then 0<=z/\∃ cs,xs[z.toNat]? = some cs/\K (.im cs 0) else False):=by
     cases x<;>first|exact h2.elim|skip
     ·rename_i n xs;exact ⟨n,xs,aa7 hv,h2⟩
     ·rename_i n xs;exact ⟨n,xs,hv,h2⟩
    clear h2 hv;obtain ⟨n,xs,hv,h2⟩:=ah6
    cases hb:Nat.beq ei.size n with
    | false=>rw [hb] at h2;exact h2.elim
    | true =>
      rw [hb] at h2;obtain ⟨h0,cs,ck,hK⟩:=h2;simp only [VR,VD] at hv;obtain ⟨hn,p,cap,rfl,hle,jG,nw,hp⟩:=hv;have bB:z.toNat<xs.length:=(dW.1 ck).1
      cases p with
      | none=>have:=nw rfl;omega
      | some a =>
        obtain ⟨zu,tj⟩:=hp a rfl;have gK:a.spot=none:=zu.resolve_left (λe=>by rw [e] at bB;cases bB);obtain ⟨bR,Sr⟩:=pJ n tj gK ck;refine ⟨_,_,rq jw k1 a gK xs.length cap k z h0 oM,hK,?_⟩;simp only [VR];have en:info.size=n:=by rw [k3];exact ie hb
        rw [en];exact ⟨⟨a.block,a.off+z.toNat * n,none⟩,rfl,rfl,by simp,Sr⟩
   case arr j =>
    simp only at h2;obtain ⟨ab,bC,h3⟩:=cq h2
    cases ab<;>simp only at h3<;>first|exact h3.elim|skip
    ·rename_i cs
     cases hb:Nat.beq ei.size 1 with
     | false=>rw [hb] at h3;exact h3.elim
     | true =>
       rw [hb] at h3;obtain ⟨h0,bB,hK⟩:=h3;simp only [VR] at hv;obtain ⟨ab,eY,hr⟩:=hv;rw [bC] at eY;cases eY
       obtain ⟨b,hE,rfl⟩:=hr;have en:info.size=1:=by rw [k3];exact ie hb
       refine ⟨_,_,rq jw k1 ⟨b,0,none⟩ rfl cs.length cs.length k z h0 oM,hK,?_⟩;simp only [VR];rw [en];exact ⟨b,⟨_,bC,rfl,hE⟩,by simp⟩
    rename_i e' n xs sh
    cases hb:Nat.beq ei.size n with
    | false=>rw [hb] at h3;exact h3.elim
    | true =>
      rw [hb] at h3;obtain ⟨h0,bB,hK⟩:=h3;simp only [VR] at hv;obtain ⟨ab,eY,hr⟩:=hv;rw [bC] at eY;cases eY
      simp only [bj] at hr;have fy:=(hs.fQ j _ bC).2.2
      cases hE:E j with
      | none=>rw [hE] at fy;simp only at fy;subst fy;simp at bB
      | some b =>
        rw [hE] at hr;obtain ⟨cap,cur,rfl,hh,da⟩:=hr;have en:info.size=n:=by rw [k3];exact ie hb
        refine ⟨_,_,rq jw k1 ⟨b,0,none⟩ rfl xs.length cap k z h0 oM,hK,?_⟩;simp only [VR];rw [en];exact ⟨_,bC,b,hE,by simp⟩
  ·exact h1.elim
 ·exact h.elim
def Lc (tt:TypeId->Option TI) (t:TypeId) (x ix:AV) (K:AV->Prop):Prop :=
 match x,ix with
 | .d (.str s),.d (.int _ z)=>lN tt t λi=>bif jI i.desc then 0<=z/\∃ b,s[z.toNat]? = some b/\K (.d (.int .u8 b.toNat)) else False
 | _,_=>False
theorem PB {P:Program} {tt:TypeId->Option TI} (ht:cp P tt) {t:TypeId} {w:World} {R:RC} {x ix:AV} {K:AV->Prop} (h:Lc tt t x ix K) {v u:Value} (hv:VR R x v) (hu:VR R ix u) :
  ∃ r av,(Instr.index t v u).run P w = .ok r w/\K av/\VR R av r:=by
 unfold Lc at h;split at h
 ·rename_i s k z;simp only [VR,VD] at hv hu;subst hv;subst hu;obtain ⟨i,hi,h1⟩:=bI h;obtain ⟨jw,_⟩:=ht t i hi
  cases hd:i.desc<;>rw [hd] at h1 jw<;>simp only [jI,py,jB] at h1<;>first|exact h1.elim|skip
  obtain ⟨h0,b,hb,hK⟩:=h1;refine ⟨.int .u8 b.toNat,_,?_,hK,by simp [VR,VD]⟩;simp only [Instr.index,asIntOf,Sem.run_bind,Sem.run_pure,Result.andThen_ok,run_underlying jw,h0,Hm,hb]
 ·exact h.elim
def uk (d:Int) (x:Option AV) (K:Int->Prop):Prop :=
 match x with
 | none=>K d
 | some (.d (.int _ z))=>K z
 | some _=>False
theorem oE {d:Int} {x:Option AV} {K:Int->Prop} (h:uk d x K) {R:RC} {v:Option Value} (hv:∀ a,x=some a->∃ u,v=some u/\VR R a u) (hn:x=none->v=none) :
  ∃ z,K z/\((x=none/\v=none/\z=d)∨∃ k,v=some (.int k z)):=by
 unfold uk at h;split at h
 ·exact ⟨d,h,.inl ⟨rfl,hn rfl,rfl⟩⟩
 ·rename_i k z;obtain ⟨u,rfl,hu⟩:=hv _ rfl;simp only [VR,VD] at hu;subst hu;exact ⟨z,h,.inr ⟨k,rfl⟩⟩
 ·exact h.elim
theorem lF {P:Program} {w:World} (k:IntKind) (i:Int) (y:Nat) (code:BoundsCode) (h0:0<=i) (h1:i<=y):(Instr.sliceBound (.int k i) y code).run P w = .ok i.toNat w:=run_sliceBound (P:=P) (w:=w) k i y code h0 h1
theorem eV {P:Program} {w:World} (b:Bool) (len cap:Nat) (lo hi:Option Value) (l h:Int) (h0:0<=l) (h1:l<=h) (h2:h<=len) (hc:len<=cap)
  (hl:(lo=none/\l=0)∨∃ k,lo=some (.int k l)) (hh:(hi=none/\h=len)∨∃ k,hi=some (.int k h)) :
  (Instr.sliceBounds b len cap lo hi none).run P w = .ok (l.toNat,h.toNat,cap) w:=by
 unfold Instr.sliceBounds;rcases hh with ⟨rfl,rfl⟩|⟨kh,rfl⟩
 ·rcases hl with ⟨rfl,rfl⟩|⟨kl,rfl⟩
  ·simp
  ·simp [lF kl l len _ h0 h1]
 ·have e1:=lF (P:=P) (w:=w) kh h cap (if b=true then BoundsCode.sliceAcap else .sliceAlen) oM oM;rcases hl with ⟨rfl,rfl⟩|⟨kl,rfl⟩
  ·simp [e1]
  ·have e2:=lF (P:=P) (w:=w) kl l h.toNat BoundsCode.sliceB h0 oM;simp [e1,e2]
def aeS (xs:List (List DV)) (n:Nat) (l h:Int) (K:AV->Prop):Prop:=0<=l/\l<=h/\h<=xs.length/\K (.d (.sl n ((xs.take h.toNat).drop l.toNat)))
def Sw (tt:TypeId->Option TI) (t:TypeId) (L:List AB) (x:AV) (lo hi:Option AV) (K:AV->List AB->Prop):Prop :=
 lN tt t λi=>uk 0 lo λl=>match x with
  | .d (.str s)=>bif jI i.desc then uk s.size hi λh=>0<=l/\l<=h/\h<=s.size/\K (.d (.str (s.extract l.toNat h.toNat))) L else False
  | .d (.sl n xs)=>match bY i.desc with
    | some e=>lN tt e λei=>bif Nat.beq ei.size n then uk xs.length hi λh=>aeS xs n l h λv=>K v L else False
    | none=>False
  | .d (.slo n xs)=>match bY i.desc with
    | some e=>lN tt e λei=>bif Nat.beq ei.size n then uk xs.length hi λh=>0<=l/\l<=h/\h<=xs.length/\K (.d (.slo n ((xs.take h.toNat).drop l.toNat))) L else False
    | none=>False
  | .arr j=>match bY i.desc with
    | some e=>lN tt e λei=>fC L j λab=>match ab with
      | .row e' n xs _=>bif Nat.beq ei.size n then uk xs.length hi λh=>(kZ L j (.row e' n xs true) λL'=>aeS xs n l h λv=>K v L')∨(l=0/\0<=h/\h<=xs.length/\xs≠[]/\K (.sub j h.toNat) L) else False
      | _=>False
    | none=>False
  | _=>False
theorem vp {rd:Addr->Value->Prop} (n:Nat):∀ {xs:List (List DV)} {a:Addr} (k:Nat),jC rd n xs a->jC rd n (xs.take k) a
 | xs,a,0,h=>by simp [jC]
 | [],a,k+1,h=>by simp [jC]
 | c :: xs,a,k+1,h=>by
   simp only [jC] at h;simp only [ZG,jC];exact ⟨h.1,h.2.1,vp n k h.2.2⟩
theorem vq {rd:Addr->Value->Prop} (n:Nat):∀ {xs:List (List DV)} {a:Addr} (k:Nat),a.spot=none->jC rd n xs a->jC rd n (xs.drop k) ⟨a.block,a.off+k * n,none⟩
 | xs,a,0,ha,h=>by simpa [jF a ha] using h
 | [],a,k+1,ha,h=>by simp [jC]
 | c :: xs,a,k+1,ha,h=>by
   simp only [jC] at h;have:=vq n k rfl h.2.2;have e:a.off+n+k * n=a.off+(k+1) * n:=by rw [qu];omega
   simpa [e] using this
theorem Sx {P:Program} {w:World} {t e:TypeId} (jw:P.underlying t=some (.slice e)) {info:TypeInfo} (Sy:P.info? e=some info) {R:RC} (hR:TkC R) {n:Nat} {xs:List (List DV)} {v:Value} (hn:info.size=n)
  (hv:VR R (.d (.sl n xs)) v) {lo hi:Option Value} {l h:Int} (h0:0<=l) (h1:l<=h) (h2:h<=xs.length)
  (hl:(lo=none/\l=0)∨∃ k,lo=some (.int k l)) (hh:(hi=none/\h=xs.length)∨∃ k,hi=some (.int k h)) :
  ∃ r,(Instr.sliceAt t v lo hi none).run P w = .ok r w/\VR R (.d (.sl n ((xs.take h.toNat).drop l.toNat))) r:=by
 simp only [VR,VD] at hv;obtain ⟨zw,p,cap,rfl,hle,jG,nw,hp⟩:=hv;have hb:=eV (P:=P) (w:=w) true xs.length cap lo hi l h h0 h1 h2 hle hl hh;refine ⟨.slice (if cap=l.toNat then p else p.map (·.add (l.toNat * info.size))) (h.toNat - l.toNat) (cap - l.toNat),?_,?_⟩
 ·unfold Instr.sliceAt;simp only [Sem.run_bind,run_underlying jw,Result.andThen_ok];unfold Instr.slice;simp only [Sem.run_bind,run_underlying jw,Result.andThen_ok,hb,run_sizeOf Sy];rfl
 ·have hlen:((xs.take h.toNat).drop l.toNat).length=h.toNat - l.toNat:=by simp;omega
  simp only [VR,VD];refine ⟨zw,_,cap - l.toNat,by rw [hlen],oM,oM,?_,?_⟩
  ·intro tH
   cases p with
   | none=>have:=nw rfl;omega
   | some a=>split at tH<;>cases tH
  ·intro a' CU
   cases p with
   | none=>split at CU<;>cases CU
   | some a =>
     obtain ⟨zu,CV,tj⟩:=hp a rfl;have Xe:0<cap - l.toNat->R.rd ⟨a'.block,a'.off,some n⟩ (.slice (some a') 0 (cap - l.toNat)):=by
      intro hc;rw [aR oM] at CU;simp only [WB,ke] at CU;by_cases h0l:l.toNat=0
      ·have e:a.add (l.toNat * info.size)=a:=by rw [h0l,Nat.zero_mul];simp [Addr.add]
       rw [e] at CU;subst CU;rw [h0l];exact CV oM
      ·have gK:a.spot=none:=zu.resolve_left (λe=>by subst e;simp at h2;omega);rw [add_lit a gK,hn] at CU;subst CU;exact hR a n cap l.toNat gK oM (CV oM)
     by_cases hx:(xs.take h.toNat).drop l.toNat=[]
     ·rw [hx];exact ⟨.inl rfl,Xe,by simp [jC]⟩
     have gK:a.spot=none:=zu.resolve_left (λe=>hx (by simp [e]));have hd:=vq n l.toNat gK (vp n h.toNat tj);split at CU
     ·rename_i bR
      cases CU
      refine ⟨.inr gK,Xe,?_⟩;have:(xs.take h.toNat).drop l.toNat=[]:=oy (by rw [hlen];omega);rw [this];simp [jC]
     ·simp only [WB,ke] at CU;subst CU;rw [add_lit a gK,hn] at Xe ⊢;exact ⟨.inr rfl,Xe,hd⟩
theorem Xf {P:Program} {w:World} {t e:TypeId} (jw:P.underlying t=some (.slice e)) {info:TypeInfo} (Sy:P.info? e=some info) {R:RC} {n:Nat} {xs:List (List DV)} {v:Value} (hn:info.size=n)
  (hv:VR R (.d (.slo n xs)) v) {lo hi:Option Value} {l h:Int} (h0:0<=l) (h1:l<=h) (h2:h<=xs.length)
  (hl:(lo=none/\l=0)∨∃ k,lo=some (.int k l)) (hh:(hi=none/\h=xs.length)∨∃ k,hi=some (.int k h)) :
  ∃ r,(Instr.sliceAt t v lo hi none).run P w = .ok r w/\VR R (.d (.slo n ((xs.take h.toNat).drop l.toNat))) r:=by
 simp only [VR,VD] at hv;obtain ⟨zw,p,cap,rfl,hle,jG,nw,hp⟩:=hv;have hb:=eV (P:=P) (w:=w) true xs.length cap lo hi l h h0 h1 h2 hle hl hh;refine ⟨.slice (if cap=l.toNat then p else p.map (·.add (l.toNat * info.size))) (h.toNat - l.toNat) (cap - l.toNat),?_,?_⟩
 ·unfold Instr.sliceAt;simp only [Sem.run_bind,run_underlying jw,Result.andThen_ok];unfold Instr.slice;simp only [Sem.run_bind,run_underlying jw,Result.andThen_ok,hb,run_sizeOf Sy];rfl
 ·have hlen:((xs.take h.toNat).drop l.toNat).length=h.toNat - l.toNat:=by simp;omega
  simp only [VR,VD];refine ⟨zw,_,cap - l.toNat,by rw [hlen],oM,oM,?_,?_⟩
  ·intro tH
   cases p with
   | none=>have:=nw rfl;omega
   | some a=>split at tH<;>cases tH
  ·intro a' CU
   cases p with
   | none=>split at CU<;>cases CU
   | some a =>
     obtain ⟨zu,tj⟩:=hp a rfl;by_cases hx:(xs.take h.toNat).drop l.toNat=[]
     ·rw [hx];exact ⟨.inl rfl,by simp [jC]⟩
     have gK:a.spot=none:=zu.resolve_left (λe=>hx (by simp [e]));have hd:=vq n l.toNat gK (vp n h.toNat tj);split at CU
     ·rename_i bR
      cases CU
      refine ⟨.inr gK,?_⟩;have:(xs.take h.toNat).drop l.toNat=[]:=oy (by rw [hlen];omega);rw [this];simp [jC]
     ·simp only [WB,ke] at CU;subst CU;rw [add_lit a gK,hn];exact ⟨.inr rfl,hd⟩
theorem PC {P:Program} {tt:TypeId->Option TI} (ht:cp P tt) {t:TypeId} {c:Ctx} (hc:c.wf) {E:Nat->Option Nat} {L:List AB} {w:World} (hs:aI c E L w)
  {x:AV} {lo hi:Option AV} {K:AV->List AB->Prop} (h:Sw tt t L x lo hi K) {v:Value} {lov PE:Option Value} (hv:VR (aj c.M0 E L w) x v)
  (hlo:∀ a,lo=some a->∃ u,lov=some u/\VR (aj c.M0 E L w) a u) (ah8:lo=none->lov=none)
  (hhi:∀ a,hi=some a->∃ u,PE=some u/\VR (aj c.M0 E L w) a u) (Xg:hi=none->PE=none) :
  ∃ r av L',(Instr.sliceAt t v lov PE none).run P w = .ok r w/\K av L'/\aI c E L' w/\(aj c.M0 E L w).le (aj c.M0 E L' w)/\VR (aj c.M0 E L' w) av r:=by
 obtain ⟨i,xe,h1⟩:=bI h;obtain ⟨l,h2,hl⟩:=oE h1 hlo ah8;obtain ⟨jw,_⟩:=ht t i xe;have Hb:(lov=none/\l=0)∨∃ k,lov=some (.int k l):=by
  rcases hl with ⟨_,a,b⟩|k
  ·exact .inl ⟨a,b⟩
  ·exact .inr k
 have idle:(aj c.M0 E L w).le (aj c.M0 E L w):=RC.le.refl _
 cases x<;>first|exact h2.elim|skip
 case d x =>
  cases x<;>first|exact h2.elim|skip
  all_goals simp only at h2
  case str s =>
   cases hd:i.desc<;>rw [hd] at h2 jw<;>simp only [jI,py,jB] at h2<;>first|exact h2.elim|skip
   obtain ⟨z,⟨k0,k1,k2,hK⟩,hz⟩:=oE h2 hhi Xg;simp only [VR,VD] at hv;subst hv;have WE:(PE=none/\z=s.size)∨∃ k,PE=some (.int k z):=by
    rcases hz with ⟨_,a,b⟩|k
    ·exact .inl ⟨a,b⟩
    ·exact .inr k
   have hb:=eV (P:=P) (w:=w) false s.size s.size lov PE l z k0 k1 k2 (eQ _) Hb WE;refine ⟨.string (s.extract l.toNat z.toNat),_,L,?_,hK,hs,idle,by simp [VR,VD]⟩;unfold Instr.sliceAt;simp only [Sem.run_bind,run_underlying jw,Result.andThen_ok];unfold Instr.slice;simp [Sem.run_bind,run_underlying jw,hb]
  case sl n xs =>
   split at h2
   ·rename_i e he;obtain ⟨ei,iw,h3⟩:=bI h2;obtain ⟨_,info,k1,k2,k3,k4⟩:=ht e ei iw;have hd:i.desc = .slice e:=by
     revert he
     cases i.desc<;>simp [bY]
    rw [hd] at jw
    cases hb:Nat.beq ei.size n with
    | false=>rw [hb] at h3;exact h3.elim
    | true =>
      rw [hb] at h3;simp only [jB] at h3;obtain ⟨z,⟨l0,l1,l2,hK⟩,hz⟩:=oE h3 hhi Xg;have WE:(PE=none/\z=xs.length)∨∃ k,PE=some (.int k z):=by
       rcases hz with ⟨_,a,b⟩|k
       ·exact .inl ⟨a,b⟩
       ·exact .inr k
      obtain ⟨r,m1,m2⟩:=Sx (w:=w) jw k1 (Aq _ _ _ _) (by rw [k3];exact ie hb) hv l0 l1 l2 Hb WE;exact ⟨r,_,L,m1,hK,hs,idle,m2⟩
   ·exact h2.elim
  case slo n xs =>
   split at h2
   ·rename_i e he;obtain ⟨ei,iw,h3⟩:=bI h2;obtain ⟨_,info,k1,k2,k3,k4⟩:=ht e ei iw;have hd:i.desc = .slice e:=by
     revert he
     cases i.desc<;>simp [bY]
    rw [hd] at jw
    cases hb:Nat.beq ei.size n with
    | false=>rw [hb] at h3;exact h3.elim
    | true =>
      rw [hb] at h3;simp only [jB] at h3;obtain ⟨z,⟨l0,l1,l2,hK⟩,hz⟩:=oE h3 hhi Xg;have WE:(PE=none/\z=xs.length)∨∃ k,PE=some (.int k z):=by
       rcases hz with ⟨_,a,b⟩|k
       ·exact .inl ⟨a,b⟩
       ·exact .inr k
      obtain ⟨r,m1,m2⟩:=Xf (w:=w) jw k1 (by rw [k3];exact ie hb) hv l0 l1 l2 Hb WE;exact ⟨r,_,L,m1,hK,hs,idle,m2⟩
   ·exact h2.elim
 case arr j =>
  simp only at h2;split at h2
  ·rename_i e he;obtain ⟨ei,iw,h3⟩:=bI h2;obtain ⟨ab,bC,h4⟩:=cq h3
   cases ab<;>simp only at h4<;>first|exact h4.elim|skip
   rename_i e' n xs sh;obtain ⟨_,info,k1,k2,k3,k4⟩:=ht e ei iw;have hd:i.desc = .slice e:=by
    revert he
    cases i.desc<;>simp [bY]
   rw [hd] at jw
   cases hb:Nat.beq ei.size n with
   | false=>rw [hb] at h4;exact h4.elim
   | true =>
     rw [hb] at h4;simp only [jB] at h4;obtain ⟨z,h5,hz⟩:=oE h4 hhi Xg;have WE:(PE=none/\z=xs.length)∨∃ k,PE=some (.int k z):=by
      rcases hz with ⟨_,a,b⟩|k
      ·exact .inl ⟨a,b⟩
      ·exact .inr k
     rcases h5 with h5|⟨l0,l1,l2,ef,hK⟩
     ·obtain ⟨l0,l1,l2,hK⟩:=ew h5;obtain ⟨bP,hle,n_⟩:=hs.close hc bC;obtain ⟨r,m1,m2⟩:=Sx (w:=w) jw k1 (Aq _ _ _ _) (by rw [k3];exact ie hb) (n_ v hv) l0 l1 l2 Hb WE;exact ⟨r,_,_,m1,hK,bP,hle,m2⟩
     ·simp only [VR] at hv;obtain ⟨bQ,eY,hrel⟩:=hv;rw [bC] at eY;cases eY
      have fy:=hs.fQ j _ bC;obtain ⟨_,tI,gC⟩:=fy
      cases hE:E j with
      | none=>rw [hE] at gC;exact absurd gC ef
      | some b =>
        simp only [bj] at hrel;rw [hE] at gC hrel;obtain ⟨cap,cur,rfl,hh,da⟩:=hrel;obtain ⟨ek,cur',nY,nx,ND,PF,CW⟩:=gC;rw [hh] at nY;cases nY
        have zw:0<n:=by
         rcases Hk n with h0|h0
         ·subst h0;rcases hs.fQ j _ bC with ⟨h,_⟩;exact absurd h.1 oM
         ·exact h0
        have xn:cap=ek:=zdB zw (da.symm.trans nx);subst xn;have Fm:=eV (P:=P) (w:=w) true xs.length cap lov PE l z oM oM l2 ND Hb WE;have hxp:0<xs.length:=List.length_pos_iff.2 ef;refine ⟨.slice (some ⟨b,0,none⟩) z.toNat cap,_,L,?_,hK,hs,idle,?_⟩
        ·unfold Instr.sliceAt;simp only [Sem.run_bind,run_underlying jw,Result.andThen_ok];unfold Instr.slice;simp only [Sem.run_bind,run_underlying jw,Result.andThen_ok,Fm,run_sizeOf k1];subst l0;have Hc:¬(cap=0):=oM;simp [Hc,add_lit]
        ·simp only [VR];exact ⟨_,cap,rfl,oM,PF,_,bC,by simp only [mF];exact ⟨b,hE,by simp⟩⟩
  ·exact h2.elim
end
noncomputable section
open Go.RowKit
noncomputable def Dz (place:Nat->(Nat×Nat->Prop)->Prop) (cs:List AV) (ps:List (Nat×AV)):(List AV->Prop)->Prop :=
 List.rec (motive:=λ_=>List AV->(List AV->Prop)->Prop) (λcs K=>K cs)
  (λq _ ih cs K=>place q.1 λp=>bif iZ p.2 q.2 && !(Nat.beq p.2 0) then Xb cs p.1 (cellsOf q.2) λcs'=>ih cs' K else False) ps cs
theorem DA (off:Nat):∀ (vs:List Value) (k:Nat) (cs:Array Value),off+k+vs.length<=cs.size ->
  ((vs.zipIdx k).foldl (λcs (c,j)=>cs.setIfInBounds (off+j) c) cs).toList=cs.toList.take (off+k)++vs++cs.toList.drop (off+k+vs.length)
 | [],k,cs,h=>by simp
 | v :: vs,k,cs,h=>by
   simp only [CE] at h;have bB:off+k<cs.toList.length:=by simp;omega
   simp only [List.zipIdx_cons,List.foldl_cons];rw [DA off vs (k+1) _ (by simp;omega)];have e:(cs.setIfInBounds (off+k) v).toList=cs.toList.take (off+k)++v :: cs.toList.drop (off+k+1):=by
    rw [Array.toList_setIfInBounds,List.set_eq_take_append_cons_drop,bp bB]
   rw [e];have hl:(cs.toList.take (off+k)).length=off+k:=by simp at bB ⊢;omega
   have e1:(cs.toList.take (off+k)++v :: cs.toList.drop (off+k+1)).take (off+(k+1))=cs.toList.take (off+k)++[v]:=by
    rw [ze4,hl];have:off+(k+1) - (off+k)=1:=oM;rw [this,gx oM];simp
   have e2:(cs.toList.take (off+k)++v :: cs.toList.drop (off+k+1)).drop (off+(k+1)+vs.length)=cs.toList.drop (off+k+(v :: vs).length):=by
    rw [ze3,hl];have h1:off+(k+1)+vs.length - (off+k)=vs.length+1:=oM;rw [h1,zfF oM,tC,zdQ,List.drop_drop];congr 1;simp;omega
   rw [e1,e2];simp
theorem oF {M0:MZ} {E:Nat->Option Nat} {L:List AB} {w:World} {place:Nat->(Nat×Nat->Prop)->Prop} {pl:Nat->Option (Nat×Nat)}
  (hp:∀ i (K:Nat×Nat->Prop),place i K->∃ p,pl i=some p/\K p) :
  ∀ {parts:List (Nat×AV)} {vals:List (Nat×Value)} {cs:List AV} {K:List AV->Prop} {cur:Array Value},Dz place cs parts K ->
    vals.length=parts.length->(∀ (j i:Nat) (x:AV),parts[j]? = some (i,x)->∃ v,vals[j]? = some (i,v)/\VR (aj M0 E L w) x v)->eK (aj M0 E L w) cs cur.toList ->
    ∃ cs' cur',Instr.fill pl cur vals=some cur'/\K cs'/\eK (aj M0 E L w) cs' cur'.toList/\cur'.size=cur.size
 | [],vals,cs,K,cur,h,hl,hv,hc=>by
   have:vals=[]:=oy (by simpa using hl);subst this;exact ⟨cs,cur,rfl,h,hc,rfl⟩
 | (i,x) :: parts,[],cs,K,cur,h,hl,hv,hc=>by simp at hl
 | (i,x) :: parts,(i',v) :: vals,cs,K,cur,h,hl,hv,hc=>by
   obtain ⟨v',uZ,oz⟩:=hv 0 i x (by simp);simp only [KF,ke,zeV] at uZ;obtain ⟨rfl,rfl⟩:=uZ;obtain ⟨p,hp1,h1⟩:=hp i' _ h
   cases hb:iZ p.2 x with
   | false=>rw [hb] at h1;exact h1.elim
   | true =>
    cases hz:Nat.beq p.2 0 with
    | true=>rw [hb,hz] at h1;exact h1.elim
    | false =>
     rw [hb,hz] at h1;simp only [Bool.and_self,Bool.not_false,jB] at h1;have WE:p.2≠0:=by intro e;rw [e] at hz;cases hz
     obtain ⟨hlen,ef⟩:=ko hb;have ck:=fg ef oz;have CX:v.cells.toList.length=(cellsOf x).length:=cH ck;have bR:cur.toList.length=cs.length:=cH hc;obtain ⟨tG,h2⟩:=zM h1;have kQ:v.cells.size=p.2:=by rw [<-lU,CX,hlen]
     have ah9:cellsOf x≠[]:=by intro e;rw [e] at hlen;exact WE hlen.symm
     have aeR:p.1+(cellsOf x).length<=cs.length:=by
      rcases tG with h|h
      ·exact absurd h ah9
      ·exact h
     have aeT:p.1+v.cells.size<=cur.size:=by rw [kQ,<-hlen,<-lU,bR];exact aeR
     have eZ:=DA p.1 v.cells.toList 0 cur (by simpa using aeT);have j7:eK (aj M0 E L w) (xl cs p.1 (cellsOf x)) (v.cells.zipIdx.foldl (λcs (c,j)=>cs.setIfInBounds (p.1+j) c) cur).toList:=by
      have e:v.cells.zipIdx.foldl (λcs (c,j)=>cs.setIfInBounds (p.1+j) c) cur=(v.cells.toList.zipIdx 0).foldl (λcs (c,j)=>cs.setIfInBounds (p.1+j) c) cur:=by
       rw [<-Array.foldl_toList];simp [Array.toList_zipIdx]
      rw [e,eZ];unfold xl;simp only [RJ];rw [CX];exact pI (pI (vh _ hc) ck) (vi _ hc)
     obtain ⟨cs',cur',k1,k2,k3,k4⟩:=oF hp (parts:=parts) (vals:=vals) h2 (by simpa using hl) (λj i y hy=>by
      obtain ⟨u,hu⟩:=hv (j+1) i y (by simpa using hy);exact ⟨u,by simpa using hu⟩) j7
     refine ⟨cs',cur',?_,k2,k3,?_⟩
     ·simp only [Instr.fill,hp1];rw [aR (by simp [kQ];omega)];exact k1
     ·rw [k4];have h3:=cH j7;have h4:=cH hc;rw [lU] at h3 h4;rw [h3,h4];unfold xl;simp;omega
def Sz (tt:TypeId->Option TI) (fs:List Field) (k:Nat) (K:Nat×Nat->Prop):Prop :=
 match oD fs k with
 | some (o,t)=>lN tt t λit=>K (o,it.size)
 | none=>False
def HG (tt:TypeId->Option TI):List Field->Bool
 | []=>true
 | f :: r=>match tt f.type with
   | some _=>HG tt r
   | none=>false
theorem DB {P:Program} {tt:TypeId->Option TI} (ht:cp P tt):∀ {fs:List Field},HG tt fs=true ->
  ∃ SA,fs.mapM (λf=>(P.info? f.type).map λi=>(f.offset,i.size))=some SA /\
    ∀ (k:Nat) (f:Field),fs[k]? = some f->∀ it,tt f.type=some it->SA[k]? = some (f.offset,it.size)
 | [],_=>⟨[],by simp,by simp⟩
 | f :: r,h=>by
   simp only [HG] at h;split at h
   ·rename_i it ZO;obtain ⟨pl,h1,h2⟩:=DB ht h;obtain ⟨_,info,k1,k2,k3,k4⟩:=ht _ _ ZO;refine ⟨(f.offset,info.size) :: pl,by simp [List.mapM_cons,k1,h1],λk g hg it' abn=>?_⟩
    cases k with
    | zero=>simp at hg;subst hg;rw [ZO] at abn;cases abn;simp [k3]
    | succ k=>simp only [ue] at hg ⊢;exact h2 k g hg it' abn
   ·cases h
def DC:TypeDesc->Bool | .struct _=>true|_=>false
def SC (tt:TypeId->Option TI) (t:TypeId) (parts:List (Nat×AV)) (K:AV->Prop):Prop :=
 lN tt t λi=>bif DC i.desc&&(HG tt (iJ i.desc)&&iZ i.size (qK i.zero)) then Dz (Sz tt (iJ i.desc)) (cellsOf (qK i.zero)) parts λcs=>K (.agg cs) else False
theorem PG {P:Program} {tt:TypeId->Option TI} (ht:cp P tt) {t:TypeId} {M0:MZ} {E:Nat->Option Nat} {L:List AB} {w:World} {parts:List (Nat×AV)} {vals:Array (Nat×Value)} {K:AV->Prop}
  (h:SC tt t parts K) (hl:vals.size=parts.length) (hv:∀ (j i:Nat) (x:AV),parts[j]? = some (i,x)->∃ v,vals[j]? = some (i,v)/\VR (aj M0 E L w) x v) :
  ∃ r av,(Instr.build t vals).run P w = .ok r w/\K av/\VR (aj M0 E L w) av r:=by
 obtain ⟨i,hi,h1⟩:=bI h;obtain ⟨hu,info,k1,k2,k3,k4⟩:=ht t i hi
 cases hb:HG tt (iJ i.desc) with
 | false=>rw [hb] at h1;simp at h1
 | true =>
   cases iR:iZ i.size (qK i.zero) with
   | false=>rw [hb,iR] at h1;simp at h1
   | true =>
    cases HH:DC i.desc with
    | false=>rw [HH] at h1;exact h1.elim
    | true =>
     rw [hb,iR,HH] at h1;simp only [Bool.and_self,jB] at h1;obtain ⟨hlen,ef⟩:=ko iR;have hz:=fg ef (lY (aj M0 E L w) i.zero);obtain ⟨pl,p1,p2⟩:=DB ht hb;obtain ⟨cs',cur',m1,m2,m3,_⟩:=oF (pl:=λk=>pl.toArray[k]?) (λk K hK=>by
      unfold Sz at hK;split at hK
      ·rename_i o t' hf;obtain ⟨f,RL,rfl,rfl⟩:=nD hf;obtain ⟨it,ZO,h2⟩:=bI hK;exact ⟨_,by simpa using p2 k f RL it ZO,h2⟩
      ·exact hK.elim) (vals:=vals.toList) h1 (by simpa using hl) (λj i x hx=>by
       obtain ⟨v,uZ,oz⟩:=hv j i x hx;exact ⟨v,by simpa using uZ,oz⟩) hz
     refine ⟨.agg cur',.agg cs',?_,m2,by simp only [VR];exact ⟨cur',rfl,m3⟩⟩;refine run_build w t vals cur' ?_
     cases hd:i.desc with
     | struct fs =>
       rw [hd] at hu p1;simp only [iJ] at p1;unfold Program.built;simp only [k1,hu,k2,p1];exact m1
     | _=>rw [hd] at HH;cases HH
def SD (x:AV) (L:List AB) (K:AV->List AB->Prop):Prop :=
 bif qw x||K7 x then gU L (.cells (cellsOf x)) 0 λi L'=>K (.ptr i 0) L' else False
theorem Ay {c:Ctx} {E:Nat->Option Nat} {L:List AB} {w:World} {cs:List AV} {b:Nat} :
  VR (aj c.M0 (ca E L.length (some b)) (L++[.cells cs]) w) (.ptr L.length 0) (.pointer (some ⟨b,0,none⟩)):=by
 simp only [VR];exact ⟨b,⟨.cells cs,by simp,rfl,by simp [ca]⟩,rfl⟩
theorem aI.Az {c:Ctx} (hc:c.wf) {E:Nat->Option Nat} {L:List AB} {w:World} (hs:aI c E L w) {cs:List AV} {cur:Array Value} (t:TypeId) (hv:eK (aj c.M0 E L w) cs cur.toList) :
  aI c (ca E L.length (some w.heap.size)) (L++[.cells cs]) (w.alloc (.cells cur t)) /\
  (aj c.M0 E L w).le (aj c.M0 (ca E L.length (some w.heap.size)) (L++[.cells cs]) (w.alloc (.cells cur t))):=by
 have k:=aO.alloc w (.cells cur t);have hle:=ig (c:=c) (E:=E) (L:=L) k (.cells cs) (some w.heap.size) hs.bl (λb hb=>by cases hb;exact eQ _) (λb hb=>by simp [AB.boxes] at hb);refine ⟨hs.extend hc k _ _ (λb hb=>by cases hb;exact eQ _) (λb hb=>by simp [AB.boxes] at hb) (by simp [AB.boxes]) (λb hb=>by simp [AB.boxes] at hb) ?_,hle⟩;exact ⟨w.heap.size,cur,t,rfl,heap_alloc_new w _,eK.mono hle _ _ hv⟩
theorem Fu {P:Program} {c:Ctx} (hc:c.wf) {E:Nat->Option Nat} {L:List AB} {w:World} (hs:aI c E L w) {x:AV} {K:AV->List AB->Prop} (h:SD x L K) (t:TypeId) {v:Value} (hv:VR (aj c.M0 E L w) x v) :
  ∃ r w' E' av L',(Instr.box t v).run P w = .ok r w'/\K av L'/\aI c E' L' w'/\(aj c.M0 E L w).le (aj c.M0 E' L' w')/\VR (aj c.M0 E' L' w') av r:=by
 unfold SD at h
 cases hb:(qw x||K7 x) with
 | false=>rw [hb] at h;exact h.elim
 | true =>
   rw [hb] at h;simp only [jB] at h;have h1:=dA h;rw [gP] at h1;have ef:cellsOf x≠[]∨∃ cs,x = .agg cs:=by
    cases x with
    | agg cs=>exact .inr ⟨_,rfl⟩
    | tup cs=>cases hb
    | d x =>
      cases x with
      | any=>cases hb
      | _=>exact .inl (by simp [cellsOf])
    | _=>exact .inl (by simp [cellsOf])
   have kQ:=fg ef hv;obtain ⟨bP,hle⟩:=hs.Az hc t kQ;exact ⟨.pointer (some ⟨w.heap.size,0,none⟩),w.alloc (.cells v.cells t),_,_,_,by simp [Instr.box,newVar,newRow],h1,bP,hle,Ay⟩
end
end Go.Ab
