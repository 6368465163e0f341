/- NodeFormsCard: abstract runs. -/
import Derived.Test.YtgkhgapkfnkagaaGreatDoorNodeFormsCardLayA
import Derived.Laws.IdiomStrings
import Derived.Lib.SlBytesConst
set_option linter.unusedVariables false
set_option linter.unusedSimpArgs false
namespace Go.Ab
noncomputable section
open Go.RowKit
structure TI where
 desc:TypeDesc
 zero:Value
 size:Nat
 bytes:Nat
 pool:Bool
 /-- new ones' nil slices are rows of their own -/
 rows:Bool
structure TTok (P:Program) (tt:TypeId→Option TI):Prop where
 ok:∀ t i,tt t=some i→P.underlying t=some i.desc∧∃ info,P.info? t=some info∧info.zero=some i.zero∧info.size=i.size∧info.bytes=i.bytes
 sz:∀ t i,tt t=some i→gsz t=i.size
instance {P:Program} {tt:TypeId→Option TI}:CoeFun (TTok P tt) fun _=>∀ t i,tt t=some i→P.underlying t=some i.desc∧∃ info,P.info? t=some info∧info.zero=some i.zero∧info.size=i.size∧info.bytes=i.bytes:=⟨TTok.ok⟩
def avOf1:Value→DV
 | .int k n => .int k n
 | .bool b => .bool b
 | .string s => .str s
 | .float k b => .flt k b
 | .complex k x y => .cplx k x y
 | .slice none 0 0 => .nils
 | .pointer none => .nilp
 | .map none => .nilm
 | .nilFunc => .nilf
 | _ => .any
def oneB:Value→Bool
 | .agg _ | .tuple _=>false
 | _=>true
def avOf:Value→AV
 | .agg cs=>bif cs.toList.all oneB then .agg ((cs.toList.map avOf1).map AV.d) else .d .any
 | .tuple _ => .d .any
 | v => .d (avOf1 v)
theorem VD_avOf1 (rd:Addr→Value→Prop) (v:Value):VD rd (avOf1 v) v:=by
 unfold avOf1
 split<;>simp [VD]
theorem VDs_map (rd:Addr→Value→Prop):∀ (l:List Value),l.all oneB=true→VDs rd (l.map avOf1) l
 | [],_=>by simp [VDs,Cs]
 | v :: l,h=>by
   simp only [List.all_cons,Bool.and_eq_true] at h
   simp only [List.map_cons,VDs,Cs]
   exact ⟨v,l,rfl,by cases v<;>simp_all [oneB,Value.oneCell'],VD_avOf1 rd v,VDs_map rd l h.2⟩
theorem VR_avOf (R:RC) (v:Value):VR R (avOf v) v:=by
 unfold avOf
 split
 ·rename_i cs
  cases h:cs.toList.all oneB with
  | false=>simp [VR,VD]
  | true=>simp only [cond_true,VR];exact ⟨cs,rfl,VRs_d.2 (VDs_map R.rd _ h)⟩
 ·simp [VR,VD]
 ·simp only [VR];exact VD_avOf1 R.rd _
def ev (F:AF):Operand→AV
 | .tmp t=>fget F t
 | .const v=>avOf v
 | .func f => .fn f []
 | .global _ => .d .any
theorem Sim.ev {c:Ctx} {E:Nat→Option Nat} {F:AF} {L:List AB} {a:Act} {w:World} (h:Sim c E F L a w) (x:Operand):VR (rcOf c.M0 E L w) (ev F x) (a.eval x):=by
 cases x with
 | tmp t=>exact h.slots t
 | const v=>exact VR_avOf _ v
 | func f=>simp only [Ab.ev,Act.eval,VR];exact ⟨#[],rfl,by simp [VRt]⟩
 | global g=>simp [Ab.ev,VR,VD]
def keq:IntKind→IntKind→Bool
 | .i8,.i8 | .i16,.i16 | .i32,.i32 | .i64,.i64 | .u8,.u8 | .u16,.u16 | .u32,.u32 | .u64,.u64=>true
 | _,_=>false
theorem keq_eq {k k':IntKind} (h:keq k k'=true):k=k':=by cases k<;>cases k'<;>first|rfl|cases h
def iand (k:IntKind) (x y:Int):Int:=k.wrap (BitVec.ofInt k.bits x &&& BitVec.ofInt k.bits y).toNat
def ior (k:IntKind) (x y:Int):Int:=k.wrap (BitVec.ofInt k.bits x ||| BitVec.ofInt k.bits y).toNat
def ixor (k:IntKind) (x y:Int):Int:=k.wrap (BitVec.ofInt k.bits x ^^^ BitVec.ofInt k.bits y).toNat
def ishl (k:IntKind) (x y:Int):Int:=k.wrap (x * 2 ^ (min y.toNat k.bits))
def ishr (k:IntKind) (x y:Int):Int:=x.fdiv (2 ^ (min y.toNat k.bits))
def intK (op:BinOp) (k:IntKind) (a b:Int) (K:AV→Prop):Prop :=
 match op with
 | .add=>∀ z,z=k.wrap (a+b)→K (.d (.int k z))
 | .sub=>∀ z,z=k.wrap (a - b)→K (.d (.int k z))
 | .mul=>∀ z,z=k.wrap (a * b)→K (.d (.int k z))
 | .quo=>b≠0∧∀ z,z=k.wrap (a.tdiv b)→K (.d (.int k z))
 | .rem=>b≠0∧∀ z,z=a.tmod b→K (.d (.int k z))
 | .and=>∀ z,z=iand k a b→K (.d (.int k z))
 | .or=>∀ z,z=ior k a b→K (.d (.int k z))
 | .xor=>∀ z,z=ixor k a b→K (.d (.int k z))
 | .eql=>K (.d (.bool (a == b)))
 | .neq=>K (.d (.bool (a != b)))
 | .lss=>K (.d (.bool (decide (a<b))))
 | .leq=>K (.d (.bool (decide (a≤b))))
 | .gtr=>K (.d (.bool (decide (a>b))))
 | .geq=>K (.d (.bool (decide (a≥b))))
 | _=>False
def strK (op:BinOp) (a b:ByteArray) (K:AV→Prop):Prop :=
 match op with
 | .add=>((a.size+b.size:Nat):Int)≤IntKind.i64.max∧K (.d (.str (a++b)))
 | .eql=>K (.d (.bool (a.toList == b.toList)))
 | .neq=>K (.d (.bool (!(a.toList == b.toList))))
 | .lss=>K (.d (.bool (Op.bytesLess a.toList b.toList)))
 | .leq=>K (.d (.bool (Op.bytesLess a.toList b.toList||a.toList == b.toList)))
 | .gtr=>K (.d (.bool (!(Op.bytesLess a.toList b.toList||a.toList == b.toList))))
 | .geq=>K (.d (.bool (!(Op.bytesLess a.toList b.toList))))
 | _=>False
def fltB (op:BinOp) (k:FloatKind) (a b:Nat):Bool :=
 match op with
 | .eql=>k.format.order a b == some .eq
 | .neq=>k.format.order a b != some .eq
 | .lss=>k.format.order a b == some .lt
 | .leq=>k.format.order a b == some .lt||k.format.order a b == some .eq
 | .gtr=>k.format.order a b == some .gt
 | .geq=>k.format.order a b == some .gt||k.format.order a b == some .eq
 | _=>false
def isCmp:BinOp→Bool | .eql | .neq | .lss | .leq | .gtr | .geq=>true|_=>false
def fkeq:FloatKind→FloatKind→Bool | .f32,.f32 | .f64,.f64=>true|_,_=>false
theorem fkeq_eq {k k':FloatKind} (h:fkeq k k'=true):k=k':=by cases k<;>cases k'<;>first|rfl|cases h
def fnear (k:FloatKind) (n:Int):Nat:=k.nearest n
def isBoolD:TypeDesc→Bool | .bool=>true|_=>false
def isPtrD:TypeDesc→Bool | .pointer _=>true|_=>false
def isSliceD0:TypeDesc→Bool | .slice _=>true|_=>false
def isMapD0:TypeDesc→Bool | .map _ _=>true|_=>false
def eqK (d:TypeDesc) (neg:Bool) (x y:AV) (K:AV→Prop):Prop :=
 match x,y with
 | .d (.bool a),.d (.bool b)=>bif isBoolD d then (match neg with|true=>K (.d (.bool (!(a == b))))|false=>K (.d (.bool (a == b)))) else False
 | .d .nilp,.d .nilp=>bif isPtrD d then K (.d (.bool (!neg))) else False
 | .ptr _ _,.d .nilp=>bif isPtrD d then K (.d (.bool neg)) else False
 | .im _ _,.d .nilp=>bif isPtrD d then K (.d (.bool neg)) else False
 | .mp _ _ _,.d .nilp=>bif isPtrD d then K (.d (.bool neg)) else False
 | .d .nilp,.ptr _ _=>bif isPtrD d then K (.d (.bool neg)) else False
 | .d .nils,.d .nils=>bif isSliceD0 d then K (.d (.bool (!neg))) else False
 | .d (.sl _ xs),.d .nils=>bif isSliceD0 d then ∀ b:Bool,(b=true→xs=[])→K (.d (.bool (if neg then !b else b))) else False
 | .d (.slo _ xs),.d .nils=>bif isSliceD0 d then ∀ b:Bool,(b=true→xs=[])→K (.d (.bool (if neg then !b else b))) else False
 | .map _,.d .nilm=>bif isMapD0 d then K (.d (.bool neg)) else False
 | .d .nilm,.d .nilm=>bif isMapD0 d then K (.d (.bool (!neg))) else False
 | _,_=>False
def eqTT (tt:TypeId→Option TI) (t:TypeId) (neg:Bool) (x y:AV) (K:AV→Prop):Prop :=
 match tt t with
 | some i=>eqK i.desc neg x y K
 | none=>False
def binK (tt:TypeId→Option TI) (op:BinOp) (t:TypeId) (x y:AV) (K:AV→Prop):Prop :=
 match x,y with
 | .d (.int k a),.d (.int k' b) =>
   match op with
   | .shl=>0≤b∧∀ z,z=ishl k a b→K (.d (.int k z))
   | .shr=>0≤b∧∀ z,z=ishr k a b→K (.d (.int k z))
   | op=>bif keq k k' then intK op k a b K else False
 | .d (.str a),.d (.str b)=>strK op a b K
 | .d (.flt k a),.d (.flt k' b)=>bif fkeq k k'&&isCmp op then K (.d (.bool (fltB op k a b))) else False
 | x,y =>
   match op with
   | .eql=>eqTT tt t false x y K
   | .neq=>eqTT tt t true x y K
   | _=>False
theorem run_eqGuard_int (P:Program) (w:World) (op:BinOp) (t:TypeId) (x y:Operand) (k k':IntKind) (a b:Int):(eqGuard op t x y (.int k a) (.int k' b)).run P w = .ok () w:=by
 unfold eqGuard
 cases op<;>simp
theorem run_eqGuard_str (P:Program) (w:World) (op:BinOp) (t:TypeId) (x y:Operand) (a b:ByteArray):(eqGuard op t x y (.string a) (.string b)).run P w = .ok () w:=by
 unfold eqGuard
 cases op<;>simp
theorem run_eqGuard_bool (P:Program) (w:World) (op:BinOp) (t:TypeId) (x y:Operand) (a b:Bool):(eqGuard op t x y (.bool a) (.bool b)).run P w = .ok () w:=by
 unfold eqGuard
 cases op<;>simp
theorem run_eqGuard_ptr (P:Program) (w:World) (op:BinOp) (t:TypeId) (x y:Operand) (a b:Option Addr):(eqGuard op t x y (.pointer a) (.pointer b)).run P w = .ok () w:=by
 unfold eqGuard
 cases op<;>simp
theorem run_eqGuard_flt (P:Program) (w:World) (op:BinOp) (t:TypeId) (x y:Operand) (k:FloatKind) (a b:Nat):(eqGuard op t x y (.float k a) (.float k b)).run P w = .ok () w:=by
 unfold eqGuard
 cases op<;>simp
theorem intK_ok {P:Program} {w:World} {op:BinOp} {k:IntKind} {a b:Int} {K:AV→Prop} (h:intK op k a b K) (hop:op ≠ .shl∧op ≠ .shr) :
  ∃ v av,(binOp op 0 (.int k a) (.int k b)).run P w = .ok v w∧(∀ t,binOp op t (.int k a) (.int k b)=binOp op 0 (.int k a) (.int k b))∧K av∧∀ R,VR R av v:=by
 cases op<;>simp only [intK] at h
 case quo=>exact ⟨.int k (k.wrap (a.tdiv b)),_,by simp [binOp,Op.intDiv,h.1],fun _=>rfl,h.2 _ rfl,fun R=>by simp [VR,VD]⟩
 case rem=>exact ⟨.int k (a.tmod b),_,by simp [binOp,Op.intDiv,h.1],fun _=>rfl,h.2 _ rfl,fun R=>by simp [VR,VD]⟩
 all_goals first
  | exact h.elim
  | exact ⟨_,_,by simp [binOp,Op.intArith],fun _=>rfl,h _ rfl,fun R=>by simp [VR,VD]⟩
  | exact ⟨_,_,by simp [binOp,Op.intBits,iand,ior,ixor];rfl,fun _=>rfl,h _ rfl,fun R=>by simp [VR,VD,iand,ior,ixor]⟩
  | exact ⟨_,_,by simp [binOp,Op.intCmp];rfl,fun _=>rfl,h,fun R=>by simp [VR,VD]⟩
theorem strK_ok {P:Program} {w:World} {op:BinOp} {a b:ByteArray} {K:AV→Prop} (h:strK op a b K) :
  ∃ v av,(∀ t,(binOp op t (.string a) (.string b)).run P w = .ok v w)∧K av∧∀ R,VR R av v:=by
 cases op<;>simp only [strK] at h<;>first
  | exact h.elim
  | exact ⟨_,_,fun t=>by simp [binOp,Op.stringOp];rfl,h,fun R=>by simp [VR,VD]⟩
  | skip
 refine ⟨.string (a++b),_,fun t => ?_,h.2,fun R=>by simp [VR,VD]⟩
 have h1:¬(((a.size+b.size:Nat):Int)>IntKind.i64.max):=by have:=h.1;omega
 simp only [binOp,Op.stringOp]
 rw [if_neg h1]
 rfl
theorem run_equal_bool {P:Program} {w:World} {t:TypeId} (ht:P.underlying t=some .bool) (a b:Bool):(Op.equal t (.bool a) (.bool b)).run P w = .ok (a == b) w:=by
 have e:Op.equal t (.bool a) (.bool b)=Op.equalIn (9999+1) t (.bool a) (.bool b):=rfl
 rw [e,Op.equalIn]
 simp only [Sem.run_bind,run_underlying ht,Result.andThen_ok]
 rfl
theorem run_equal_nil_left {P:Program} {w:World} {t e:TypeId} (ht:P.underlying t=some (.pointer e)) (b:Option Addr):(Op.equal t (.pointer none) (.pointer b)).run P w = .ok b.isNone w:=by
 have e:Op.equal t (.pointer none) (.pointer b)=Op.equalIn (9999+1) t (.pointer none) (.pointer b):=rfl
 rw [e,Op.equalIn]
 simp only [Sem.run_bind,run_underlying ht,Result.andThen_ok]
 cases b<;>rfl
theorem run_equal_nil_right {P:Program} {w:World} {t e:TypeId} (ht:P.underlying t=some (.pointer e)) (a:Addr):(Op.equal t (.pointer (some a)) (.pointer none)).run P w = .ok false w:=by
 have e:Op.equal t (.pointer (some a)) (.pointer none)=Op.equalIn (9999+1) t (.pointer (some a)) (.pointer none):=rfl
 rw [e,Op.equalIn]
 simp only [Sem.run_bind,run_underlying ht,Result.andThen_ok]
 rfl
def eqOp (neg:Bool):BinOp:=match neg with|true => .neq|false => .eql
theorem run_eq_of {P:Program} {w:World} {t:TypeId} {u v:Value} {r:Bool} (neg:Bool) (hb:∀ op,(op = .eql∨op = .neq)→binOp op t u v=(match op with | .eql=>(do pure (.bool (← Op.equal t u v)))|_=>(do pure (.bool (!(← Op.equal t u v))))))
  (h:(Op.equal t u v).run P w = .ok r w):(binOp (eqOp neg) t u v).run P w = .ok (.bool (if neg then !r else r)) w:=by
 cases neg
 ·have:=hb .eql (.inl rfl)
  simp only [eqOp]
  rw [this]
  simp only [Sem.run_bind,h,Result.andThen_ok]
  rfl
 ·have:=hb .neq (.inr rfl)
  simp only [eqOp]
  rw [this]
  simp only [Sem.run_bind,h,Result.andThen_ok]
  rfl
theorem run_equal_sl {P:Program} {w:World} {t e:TypeId} (ht:P.underlying t=some (.slice e)) (a:Option Addr) (l k:Nat):(Op.equal t (.slice a l k) (.slice none 0 0)).run P w = .ok a.isNone w:=by
 have e:Op.equal t (.slice a l k) (.slice none 0 0)=Op.equalIn (9999+1) t (.slice a l k) (.slice none 0 0):=rfl
 rw [e,Op.equalIn]
 simp only [Sem.run_bind,run_underlying ht,Result.andThen_ok]
 cases a<;>rfl
theorem run_equal_map {P:Program} {w:World} {t k e:TypeId} (ht:P.underlying t=some (.map k e)) (a:Option Nat):(Op.equal t (.map a) (.map none)).run P w = .ok a.isNone w:=by
 have e:Op.equal t (.map a) (.map none)=Op.equalIn (9999+1) t (.map a) (.map none):=rfl
 rw [e,Op.equalIn]
 simp only [Sem.run_bind,run_underlying ht,Result.andThen_ok]
 cases a<;>rfl
theorem run_eqGuard_sl (P:Program) (w:World) (op:BinOp) (t:TypeId) (x y:Operand) (a b:Option Addr) (l k l' k':Nat):(eqGuard op t x y (.slice a l k) (.slice b l' k')).run P w = .ok () w:=by
 unfold eqGuard
 cases op<;>simp
theorem run_eqGuard_map (P:Program) (w:World) (op:BinOp) (t:TypeId) (x y:Operand) (a b:Option Nat):(eqGuard op t x y (.map a) (.map b)).run P w = .ok () w:=by
 unfold eqGuard
 cases op<;>simp
theorem eqK_ok {P:Program} {w:World} {d:TypeDesc} {neg:Bool} {x y:AV} {K:AV→Prop} (h:eqK d neg x y K) (t:TypeId) (ht:P.underlying t=some d)
  {R:RC} {u v:Value} (hu:VR R x u) (hv:VR R y v) (xo yo:Operand) :
  ∃ b,(eqGuard (eqOp neg) t xo yo u v).run P w = .ok () w∧(binOp (eqOp neg) t u v).run P w = .ok (.bool b) w∧K (.d (.bool b)):=by
 unfold eqK at h
 split at h
 ·rename_i a b
  simp only [VR,VD] at hu hv;subst hu;subst hv
  cases d<;>simp only [isBoolD,cond_false,cond_true] at h<;>first|exact h.elim|skip
  refine ⟨_,run_eqGuard_bool _ _ _ _ _ _ _ _,run_eq_of neg (fun op ho=>by rcases ho with rfl|rfl<;>rfl) (run_equal_bool ht a b),?_⟩
  cases neg<;>exact h
 ·simp only [VR,VD] at hu hv;subst hu;subst hv
  cases d<;>simp only [isPtrD,cond_false,cond_true] at h<;>first|exact h.elim|skip
  refine ⟨_,run_eqGuard_ptr _ _ _ _ _ _ _ _,run_eq_of neg (fun op ho=>by rcases ho with rfl|rfl<;>rfl) (run_equal_nil_left ht none),?_⟩
  cases neg<;>exact h
 ·simp only [VR,VD] at hu hv
  obtain ⟨b,_,rfl⟩:=hu
  subst hv
  cases d<;>simp only [isPtrD,cond_false,cond_true] at h<;>first|exact h.elim|skip
  refine ⟨_,run_eqGuard_ptr _ _ _ _ _ _ _ _,run_eq_of neg (fun op ho=>by rcases ho with rfl|rfl<;>rfl) (run_equal_nil_right ht _),?_⟩
  cases neg<;>exact h
 ·simp only [VR,VD] at hu hv
  obtain ⟨b,rfl,_⟩:=hu
  subst hv
  cases d<;>simp only [isPtrD,cond_false,cond_true] at h<;>first|exact h.elim|skip
  refine ⟨_,run_eqGuard_ptr _ _ _ _ _ _ _ _,run_eq_of neg (fun op ho=>by rcases ho with rfl|rfl<;>rfl) (run_equal_nil_right ht _),?_⟩
  cases neg<;>exact h
 ·simp only [VR,VD] at hu hv
  subst hu
  subst hv
  cases d<;>simp only [isPtrD,cond_false,cond_true] at h<;>first|exact h.elim|skip
  refine ⟨_,run_eqGuard_ptr _ _ _ _ _ _ _ _,run_eq_of neg (fun op ho=>by rcases ho with rfl|rfl<;>rfl) (run_equal_nil_right ht _),?_⟩
  cases neg<;>exact h
 ·simp only [VR,VD] at hu hv
  obtain ⟨b,_,rfl⟩:=hv
  subst hu
  cases d<;>simp only [isPtrD,cond_false,cond_true] at h<;>first|exact h.elim|skip
  refine ⟨_,run_eqGuard_ptr _ _ _ _ _ _ _ _,run_eq_of neg (fun op ho=>by rcases ho with rfl|rfl<;>rfl) (run_equal_nil_left ht _),?_⟩
  cases neg<;>exact h
 ·simp only [VR,VD] at hu hv
  subst hu
  subst hv
  cases d<;>simp only [isSliceD0,cond_false,cond_true] at h<;>first|exact h.elim|skip
  refine ⟨_,run_eqGuard_sl _ _ _ _ _ _ _ _ _ _ _ _,run_eq_of neg (fun op ho=>by rcases ho with rfl|rfl<;>rfl) (run_equal_sl ht _ _ _),?_⟩
  cases neg<;>exact h
 ·rename_i n xs
  simp only [VR,VD] at hu hv
  obtain ⟨_,a,cap,rfl,h1,_,h2,_⟩:=hu
  subst hv
  cases d<;>simp only [isSliceD0,cond_false,cond_true] at h<;>first|exact h.elim|skip
  refine ⟨_,run_eqGuard_sl _ _ _ _ _ _ _ _ _ _ _ _,run_eq_of neg (fun op ho=>by rcases ho with rfl|rfl<;>rfl) (run_equal_sl ht _ _ _),?_⟩
  refine h a.isNone fun ha => ?_
  have:=h2 (by simpa using ha)
  exact List.eq_nil_of_length_eq_zero (by omega)
 ·rename_i n xs
  simp only [VR,VD] at hu hv
  obtain ⟨_,a,cap,rfl,h1,_,h2,_⟩:=hu
  subst hv
  cases d<;>simp only [isSliceD0,cond_false,cond_true] at h<;>first|exact h.elim|skip
  refine ⟨_,run_eqGuard_sl _ _ _ _ _ _ _ _ _ _ _ _,run_eq_of neg (fun op ho=>by rcases ho with rfl|rfl<;>rfl) (run_equal_sl ht _ _ _),?_⟩
  refine h a.isNone fun ha => ?_
  have:=h2 (by simpa using ha)
  exact List.eq_nil_of_length_eq_zero (by omega)
 ·simp only [VR,VD] at hu hv
  obtain ⟨b,_,rfl⟩:=hu
  subst hv
  cases d<;>simp only [isMapD0,cond_false,cond_true] at h<;>first|exact h.elim|skip
  refine ⟨_,run_eqGuard_map _ _ _ _ _ _ _ _,run_eq_of neg (fun op ho=>by rcases ho with rfl|rfl<;>rfl) (run_equal_map ht _),?_⟩
  cases neg<;>exact h
 ·simp only [VR,VD] at hu hv
  subst hu
  subst hv
  cases d<;>simp only [isMapD0,cond_false,cond_true] at h<;>first|exact h.elim|skip
  refine ⟨_,run_eqGuard_map _ _ _ _ _ _ _ _,run_eq_of neg (fun op ho=>by rcases ho with rfl|rfl<;>rfl) (run_equal_map ht _),?_⟩
  cases neg<;>exact h
 ·exact h.elim
theorem binK_ok {P:Program} {tt:TypeId→Option TI} (ht:TTok P tt) {w:World} {op:BinOp} {t:TypeId} {x y:AV} {K:AV→Prop} (h:binK tt op t x y K)
  {R:RC} {u v:Value} (hu:VR R x u) (hv:VR R y v) (xo yo:Operand) :
  ∃ r av,(eqGuard op t xo yo u v).run P w = .ok () w∧(binOp op t u v).run P w = .ok r w∧K av∧∀ R,VR R av r:=by
 unfold binK at h
 split at h
 ·rename_i k a k' b
  simp only [VR,VD] at hu hv;subst hu;subst hv
  by_cases hs:op = .shl∨op = .shr
  ·rcases hs with rfl|rfl
   ·simp only at h
    refine ⟨.int k (ishl k a b),_,run_eqGuard_int _ _ _ _ _ _ _ _ _ _,?_,h.2 _ rfl,fun R=>by simp [VR,VD]⟩
    simp only [binOp,Op.shift]
    rw [if_neg (by omega)]
    rfl
   ·simp only at h
    refine ⟨.int k (ishr k a b),_,run_eqGuard_int _ _ _ _ _ _ _ _ _ _,?_,h.2 _ rfl,fun R=>by simp [VR,VD]⟩
    simp only [binOp,Op.shift]
    rw [if_neg (by omega)]
    rfl
  ·have hs':op ≠ .shl∧op ≠ .shr:=by constructor<;>(rintro rfl;simp at hs)
   have h':(bif keq k k' then intK op k a b K else False):=by
    cases op<;>first|exact h|(simp at hs)
   cases hk:keq k k' with
   | false=>rw [hk] at h';exact h'.elim
   | true =>
     rw [hk] at h'
     have:=keq_eq hk
     subst this
     obtain ⟨r,av,h1,h2,h3,h4⟩:=intK_ok (P:=P) (w:=w) h' hs'
     exact ⟨r,av,run_eqGuard_int _ _ _ _ _ _ _ _ _ _,by rw [h2 t];exact h1,h3,h4⟩
 ·rename_i a b
  simp only [VR,VD] at hu hv;subst hu;subst hv
  obtain ⟨r,av,h1,h2,h3⟩:=strK_ok (P:=P) (w:=w) h
  exact ⟨r,av,run_eqGuard_str _ _ _ _ _ _ _ _,h1 t,h2,h3⟩
 ·rename_i k a k' b
  simp only [VR,VD] at hu hv;subst hu;subst hv
  cases hk:(fkeq k k'&&isCmp op) with
  | false=>rw [hk] at h;exact h.elim
  | true =>
    rw [hk] at h
    simp only [Bool.and_eq_true] at hk
    have:=fkeq_eq hk.1
    subst this
    have hc:=hk.2
    refine ⟨.bool (fltB op k a b),_,run_eqGuard_flt _ _ _ _ _ _ _ _ _,?_,h,fun R=>by simp [VR,VD]⟩
    cases op<;>first|(cases hc;done)|(simp [binOp,Op.floatCmp,fltB])
 ·have key:∀ neg,eqTT tt t neg x y K→∃ r av,(eqGuard (eqOp neg) t xo yo u v).run P w = .ok () w∧(binOp (eqOp neg) t u v).run P w = .ok r w∧K av∧∀ R,VR R av r:=by
   intro neg hK
   unfold eqTT at hK
   split at hK
   ·rename_i i hi
    obtain ⟨b,h1,h2,h3⟩:=eqK_ok (w:=w) hK t (ht t i hi).1 hu hv xo yo
    exact ⟨_,_,h1,h2,h3,fun R=>by simp [VR,VD]⟩
   ·exact hK.elim
  split at h
  ·exact key false h
  ·exact key true h
  ·exact h.elim
end
end Go.Ab
namespace Go.Ab
noncomputable section
open Go.RowKit
noncomputable def nthK (cs:List AV):Nat→(AV→Prop)→Prop :=
 List.rec (motive:=fun _=>Nat→(AV→Prop)→Prop) (fun _ _=>False) (fun c _ ih n=>Nat.rec (motive:=fun _=>(AV→Prop)→Prop) (fun K=>K c) (fun m _=>ih m) n) cs
theorem nthK_ok:∀ {cs:List AV} {n:Nat} {K:AV→Prop},nthK cs n K→∃ c,cs[n]? = some c∧K c
 | [],_,_,h=>h.elim
 | c :: _,0,_,h=>⟨c,by simp,h⟩
 | _ :: r,n+1,K,h=>by
   obtain ⟨c,h1,h2⟩:=nthK_ok (cs:=r) (n:=n) h
   exact ⟨c,by simpa using h1,h2⟩
noncomputable def takeK {α:Type} (n:Nat):List α→(List α→Prop)→Prop :=
 Nat.rec (motive:=fun _=>List α→(List α→Prop)→Prop) (fun _ K=>K []) (fun _ ih l=>List.rec (motive:=fun _=>(List α→Prop)→Prop) (fun _=>False) (fun c r _ K=>ih r fun l=>K (c :: l)) l) n
theorem takeK_ok {α:Type}:∀ {n:Nat} {cs:List α} {K:List α→Prop},takeK n cs K→n≤cs.length∧K (cs.take n)
 | 0,cs,K,h=>⟨by simp,by rw [List.take_zero];exact h⟩
 | _+1,[],K,h=>h.elim
 | n+1,c :: r,K,h=>by
   obtain ⟨h1,h2⟩:=takeK_ok (n:=n) (cs:=r) h
   exact ⟨by simp;omega,by simpa using h2⟩
noncomputable def dropK {α:Type} (n:Nat):List α→(List α→Prop)→Prop :=
 Nat.rec (motive:=fun _=>List α→(List α→Prop)→Prop) (fun l K=>K l) (fun _ ih l=>List.rec (motive:=fun _=>(List α→Prop)→Prop) (fun _=>False) (fun _ r _ K=>ih r K) l) n
theorem dropK_ok {α:Type}:∀ {n:Nat} {cs:List α} {K:List α→Prop},dropK n cs K→n≤cs.length∧K (cs.drop n)
 | 0,cs,K,h=>⟨by simp,by rw [List.drop_zero];exact h⟩
 | _+1,[],K,h=>h.elim
 | n+1,c :: r,K,h=>by
   obtain ⟨h1,h2⟩:=dropK_ok (n:=n) (cs:=r) h
   exact ⟨by simp;omega,by simpa using h2⟩
noncomputable def putK (cs:List AV):Nat→List AV→(List AV→Prop)→Prop :=
 List.rec (motive:=fun _=>Nat→List AV→(List AV→Prop)→Prop) (fun _ vs K=>List.rec (motive:=fun _=>Prop) (K []) (fun _ _ _=>False) vs)
  (fun c r ih n vs=>List.rec (motive:=fun _=>(List AV→Prop)→Prop) (fun K=>K (c :: r)) (fun v vs' _=>Nat.rec (motive:=fun _=>(List AV→Prop)→Prop) (fun K=>ih 0 vs' fun l=>K (v :: l)) (fun m _ K=>ih m (v :: vs') fun l=>K (c :: l)) n) vs) cs
def over (cs:List AV) (n:Nat) (vs:List AV):List AV:=cs.take n++vs++cs.drop (n+vs.length)
theorem putK_ok:∀ {cs:List AV} {n:Nat} {vs:List AV} {K:List AV→Prop},putK cs n vs K→(vs=[]∨n+vs.length≤cs.length)∧K (over cs n vs)
 | cs,n,[],K,h=>by
   refine ⟨.inl rfl,?_⟩
   have:putK cs n [] K=K cs:=by cases cs<;>cases n<;>rfl
   rw [this] at h
   simpa [over] using h
 | [],n,v :: vs,K,h=>by cases n<;>exact h.elim
 | c :: cs,n+1,v :: vs,K,h=>by
   obtain ⟨h1,h2⟩:=putK_ok (cs:=cs) (n:=n) (vs:=v :: vs) h
   refine ⟨.inr ?_,?_⟩
   ·rcases h1 with h1|h1
    ·cases h1
    ·simp at h1 ⊢;omega
   ·have e:n+1+(v :: vs).length=(n+(v :: vs).length)+1:=by omega
    simp only [over] at h2 ⊢
    rw [e,List.drop_succ_cons,List.take_succ_cons]
    simpa using h2
 | c :: cs,0,v :: vs,K,h=>by
   obtain ⟨h1,h2⟩:=putK_ok (cs:=cs) (n:=0) (vs:=vs) h
   refine ⟨.inr ?_,?_⟩
   ·rcases h1 with h1|h1
    ·subst h1;simp
    ·simp at h1 ⊢;omega
   ·simp only [over,Nat.zero_add,List.take_zero,List.nil_append] at h2 ⊢
    simpa using h2
noncomputable def lgetK (cs:List AB):Nat→(AB→Prop)→Prop :=
 List.rec (motive:=fun _=>Nat→(AB→Prop)→Prop) (fun _ _=>False) (fun c _ ih n=>Nat.rec (motive:=fun _=>(AB→Prop)→Prop) (fun K=>K c) (fun m _=>ih m) n) cs
theorem lgetK_ok:∀ {cs:List AB} {n:Nat} {K:AB→Prop},lgetK cs n K→∃ c,cs[n]? = some c∧K c
 | [],_,_,h=>h.elim
 | c :: _,0,_,h=>⟨c,by simp,h⟩
 | _ :: r,n+1,K,h=>by
   obtain ⟨c,h1,h2⟩:=lgetK_ok (cs:=r) (n:=n) h
   exact ⟨c,by simpa using h1,h2⟩
noncomputable def lsetK (cs:List AB):Nat→AB→(List AB→Prop)→Prop :=
 List.rec (motive:=fun _=>Nat→AB→(List AB→Prop)→Prop) (fun _ _ _=>False) (fun c r ih n=>Nat.rec (motive:=fun _=>AB→(List AB→Prop)→Prop) (fun x K=>K (x :: r)) (fun m _ x K=>ih m x fun l=>K (c :: l)) n) cs
theorem lsetK_ok:∀ {cs:List AB} {n:Nat} {x:AB} {K:List AB→Prop},lsetK cs n x K→K (cs.set n x)
 | [],_,_,_,h=>h.elim
 | c :: _,0,_,_,h=>by rw [List.set_cons_zero];exact h
 | c :: r,n+1,x,K,h=>by
   have:=lsetK_ok (cs:=r) (n:=n) (x:=x) (K:=fun l=>K (c :: l)) h
   simpa using this
noncomputable def lpushK (cs:List AB):AB→Nat→(Nat→List AB→Prop)→Prop :=
 List.rec (motive:=fun _=>AB→Nat→(Nat→List AB→Prop)→Prop) (fun x n K=>K n [x]) (fun c _ ih x n K=>ih x (n+1) fun i l=>K i (c :: l)) cs
theorem lpushK_ok:∀ {cs:List AB} {x:AB} {n:Nat} {K:Nat→List AB→Prop},lpushK cs x n K→K (n+cs.length) (cs++[x])
 | [],_,_,_,h=>by simpa [lpushK] using h
 | c :: r,x,n,K,h=>by
   have:=lpushK_ok (cs:=r) (x:=x) (n:=n+1) h
   have e:n+1+r.length=n+(c :: r).length:=by simp;omega
   rw [e] at this
   simpa using this
def isAggD:TypeDesc→Bool
 | .struct _ | .array _ _=>true
 | _=>false
def ttK (tt:TypeId→Option TI) (t:TypeId) (K:TI→Prop):Prop :=
 match tt t with
 | some i=>K i
 | none=>False
theorem ttK_ok {tt:TypeId→Option TI} {t:TypeId} {K:TI→Prop} (h:ttK tt t K):∃ i,tt t=some i∧K i:=by
 unfold ttK at h
 split at h
 ·rename_i i hi;exact ⟨i,hi,h⟩
 ·exact h.elim
theorem run_isAgg {P:Program} {t:TypeId} {d:TypeDesc} (h:P.underlying t=some d) (w:World):(isAgg t).run P w = .ok (isAggD d) w:=by
 unfold isAgg
 simp only [Sem.run_bind,run_underlying h,Result.andThen_ok]
 cases d<;>rfl
theorem run_sizeOf {P:Program} {t:TypeId} {i:TypeInfo} (h:P.info? t=some i) (w:World):(sizeOf t).run P w = .ok i.size w:=by
 simp [sizeOf,typeInfo,h]
def readK (i:TI) (cs:List AV) (off:Nat) (K:AV→Prop):Prop :=
 match isAggD i.desc with
 | true=>dropK off cs fun r=>takeK i.size r fun l=>K (.agg l)
 | false=>nthK cs off K
theorem readK_ok {P:Program} {tt:TypeId→Option TI} (ht:TTok P tt) {t:TypeId} {i:TI} (hi:tt t=some i) {cs:List AV} {off:Nat} {K:AV→Prop} (h:readK i cs off K)
  {R:RC} {us:List Value} (hv:VRs R cs us) {w:World} {b o:Nat} (hc:∀ j u,us[j]? = some u→w.cell? ⟨b,o+j,none⟩=some u) :
  ∃ v av,(loadVar t ⟨b,o+off,none⟩).run P w = .ok v w∧K av∧VR R av v:=by
 obtain ⟨hu,info,h1,h2,h3,h4⟩:=ht t i hi
 unfold readK at h
 cases hd:isAggD i.desc with
 | true =>
   rw [hd] at h
   obtain ⟨hlen,h5⟩:=dropK_ok h
   obtain ⟨hlen2,h6⟩:=takeK_ok h5
   have hvs:=VRs_take i.size (VRs_drop off hv)
   refine ⟨.agg ((us.drop off).take i.size).toArray,_,?_,h6,?_⟩
   ·unfold loadVar
    simp only [Sem.run_bind,run_isAgg hu,hd,Result.andThen_ok,if_true,run_sizeOf h1]
    have hl:((us.drop off).take i.size).length=i.size:=by
     have:=VRs_length hvs
     rw [this];simp at hlen2 ⊢;omega
    have:=run_loadCells_list (P:=P) w ⟨b,o+off,none⟩ ((us.drop off).take i.size) (fun j v hj=>by
     rw [add_lit _ rfl]
     rw [List.getElem?_take] at hj
     split at hj
     ·rw [List.getElem?_drop] at hj
      have:=hc _ v hj
      simpa [Nat.add_assoc] using this
     ·cases hj)
    rw [hl] at this
    rw [h3,this]
    simp
   ·simp only [VR]
    exact ⟨_,rfl,by simpa using hvs⟩
 | false =>
   rw [hd] at h
   obtain ⟨c,h5,h6⟩:=nthK_ok h
   obtain ⟨u,k1,k2,k3⟩:=VRs_get hv h5
   refine ⟨u,c,?_,h6,k3⟩
   unfold loadVar
   simp only [Sem.run_bind,run_isAgg hu,hd,Result.andThen_ok]
   have:=hc off u k1
   simp [this]
def BoxIn (L:List AB) (b:Nat) (cs:List DV):Prop:=∃ (m:Nat) (ab:AB),L[m]? = some ab∧(b,cs)∈ab.boxcs
def loadK (i:TI) (L:List AB) (x:AV) (K:AV→Prop):Prop :=
 match x with
 | .ptr j off=>lgetK L j fun ab=>match ab with
   | .cells cs=>readK i cs off K
   | _=>False
 | .im cs off=>readK i (cs.map AV.d) off K
 | .ap j k off=>lgetK L j fun ab=>match ab with
   | .row _ _ xs _=>∃ cs,xs[k]? = some cs∧readK i (cs.map AV.d) off K
   | _=>False
 | .mp _ b off=>∃ cs,BoxIn L b cs∧readK i (cs.map AV.d) off K
 | _=>False
theorem flatten_get {α:Type} (n:Nat):∀ {xs:List (List α)},(∀ cs∈xs,cs.length=n)→∀ {k:Nat} {cs:List α},xs[k]? = some cs→(xs.flatten.drop (k * n)).take n=cs
 | [],_,k,cs,h=>by simp at h
 | c :: xs,hn,k,cs,h=>by
   have hc:c.length=n:=hn c (by simp)
   cases k with
   | zero=>simp at h;subst h;rw [Nat.zero_mul,List.drop_zero,List.flatten_cons,← hc,List.take_left]
   | succ k =>
     simp only [List.getElem?_cons_succ] at h
     have:=flatten_get n (fun c' hc'=>hn c' (by simp [hc'])) h
     rw [List.flatten_cons]
     have e:(k+1) * n=c.length+k * n:=by rw [Nat.add_mul,hc];omega
     rw [e,List.drop_append]
     simp only [Nat.add_sub_cancel_left]
     rw [List.drop_eq_nil_of_le (show c.length≤c.length+k * n by omega),List.nil_append]
     exact this
theorem flatten_length {α:Type} (n:Nat):∀ {xs:List (List α)},(∀ cs∈xs,cs.length=n)→xs.flatten.length=xs.length * n
 | [],_=>by simp
 | c :: xs,hn=>by
   have:=flatten_length n (xs:=xs) (fun c' hc'=>hn c' (by simp [hc']))
   rw [List.flatten_cons,List.length_append,this,hn c (by simp),List.length_cons,Nat.add_mul];omega
theorem loadK_ok {P:Program} {tt:TypeId→Option TI} (ht:TTok P tt) {t:TypeId} {i:TI} (hi:tt t=some i) {c:Ctx} {E:Nat→Option Nat} {L:List AB} {w:World} (hs:SimH c E L w)
  {x:AV} {K:AV→Prop} (h:loadK i L x K) {v:Value} (hv:VR (rcOf c.M0 E L w) x v) :
  ∃ r av,(Instr.loadAt t v).run P w = .ok r w∧K av∧VR (rcOf c.M0 E L w) av r:=by
 cases x<;>simp only [loadK] at h<;>first|exact h.elim|skip
 case ptr j off =>
  simp only [VR] at hv
  obtain ⟨b,⟨ab',hab',_,hE⟩,rfl⟩:=hv
  obtain ⟨ab,hab,h2⟩:=lgetK_ok h
  cases ab with
  | cells cs =>
    obtain ⟨b',cur,e,hb',hh,hvs⟩:=hs.blk j _ hab
    rw [hE] at hb';cases hb'
    obtain ⟨r,av,k1,k2,k3⟩:=readK_ok (w:=w) (b:=b) (o:=0) ht hi h2 hvs (fun m u hm=>by
     rw [Nat.zero_add,cell_of_row w b m cur e (0,0) hh];simpa using hm)
    rw [Nat.zero_add] at k1
    exact ⟨r,av,by simpa [Instr.loadAt,Instr.sureAddr] using k1,k2,k3⟩
  | _=>exact h2.elim
 case im cs off =>
  simp only [VR] at hv
  obtain ⟨a,rfl,hsp,hlen,hvrc⟩:=hv
  obtain ⟨us,k1,k2⟩:=VDC_vals hvrc hsp
  obtain ⟨r,av,k3,k4,k5⟩:=readK_ok (w:=w) (b:=a.block) (o:=a.off) ht hi h (VRs_d.2 k1:VRs (rcOf c.M0 E L w) (cs.map AV.d) us) (fun m u hm=>(rd_cell (k2 m u hm) rfl).1)
  exact ⟨r,av,by simpa [Instr.loadAt,Instr.sureAddr] using k3,k4,k5⟩
 case ap j k off =>
  simp only [VR] at hv
  obtain ⟨ab',hab',hrel⟩:=hv
  obtain ⟨ab,hab,h2⟩:=lgetK_ok h
  rw [hab] at hab';cases hab'
  cases ab' with
  | row e n xs sh =>
    obtain ⟨cs,hcs,h3⟩:=h2
    obtain ⟨b,hE,rfl⟩:=hrel
    obtain ⟨hn,hlen,hbr⟩:=hs.blk j _ hab
    rw [hE] at hbr
    obtain ⟨cap,cur,hh,hsz,hle1,hle2,hvs⟩:=hbr
    have hk:k<xs.length:=(List.getElem?_eq_some_iff.1 hcs).1
    have hvs2:=Cs_take n (Cs_drop (k * n) hvs)
    rw [flatten_get n hlen hcs] at hvs2
    obtain ⟨r,av,k1,k2,k3⟩:=readK_ok (w:=w) (b:=b) (o:=k * n) ht hi h3 (VRs_d.2 hvs2:VRs (rcOf c.M0 E L w) (cs.map AV.d) _) (fun m u hm=>by
     rw [cell_of_row w b _ cur e (0,0) hh]
     rw [List.getElem?_take] at hm
     split at hm
     ·rw [List.getElem?_drop,List.getElem?_take] at hm
      split at hm
      ·simpa using hm
      ·cases hm
     ·cases hm)
    exact ⟨r,av,by simpa [Instr.loadAt,Instr.sureAddr] using k1,k2,k3⟩
  | _=>exact h2.elim
 case mp j b off =>
  simp only [VR] at hv
  subst hv
  obtain ⟨cs,⟨m,ab,hm,hb⟩,h2⟩:=h
  obtain ⟨cur,e,hh,hvs⟩:=(hs.blk m ab hm).box hb
  obtain ⟨r,av,k1,k2,k3⟩:=readK_ok (w:=w) (b:=b) (o:=0) ht hi h2 (VRs_d.2 hvs:VRs (rcOf c.M0 E L w) (cs.map AV.d) _) (fun m u hm=>by
    rw [Nat.zero_add,cell_of_row w b m cur e (0,0) hh];simpa using hm)
  rw [Nat.zero_add] at k1
  exact ⟨r,av,by simpa [Instr.loadAt,Instr.sureAddr] using k1,k2,k3⟩
def oneAV:AV→Bool
 | .agg _ | .tup _ | .d .any=>false
 | _=>true
theorem oneAV_ok {M0:MZ} {E:Nat→Option Nat} {L:List AB} {w:World} {x:AV} {v:Value} (h:oneAV x=true) (hv:VR (rcOf M0 E L w) x v):v.oneCell'=true:=by
 cases x<;>simp only [VR] at hv
 case d x =>
  cases x<;>simp only [VD] at hv<;>first
   | (subst hv;rfl)
   | (cases h;done)
   | skip
  all_goals (obtain ⟨_,a,cap,rfl,_⟩:=hv;rfl)
 case arr i=>obtain ⟨ab,_,hr⟩:=hv;obtain ⟨p,l,k,rfl⟩:=arRel_slice hr;rfl
 case ptr i o=>obtain ⟨b,_,rfl⟩:=hv;rfl
 case ap i j o=>obtain ⟨ab,_,hr⟩:=hv;obtain ⟨p,rfl⟩:=apRel_pointer hr;rfl
 case im cs o=>obtain ⟨b,rfl,_⟩:=hv;rfl
 case map i=>obtain ⟨b,_,rfl⟩:=hv;rfl
 case mp i b o=>subst hv;rfl
 case agg cs=>cases h
 case tup cs=>cases h
 case fn f cs=>obtain ⟨us,rfl,_⟩:=hv;rfl
 case sub i n=>obtain ⟨p,cap,rfl,_⟩:=hv;rfl
 case isl i x=>exact hv.2
def cellsOf (x:AV):List AV :=
 match x with
 | .agg cs=>cs
 | .tup _ | .d .any=>[]
 | x=>[x]
theorem cellsOf_ok {M0:MZ} {E:Nat→Option Nat} {L:List AB} {w:World} {x:AV} {v:Value} (hne:cellsOf x≠[]∨∃ cs,x = .agg cs) (hv:VR (rcOf M0 E L w) x v):VRs (rcOf M0 E L w) (cellsOf x) v.cells.toList:=by
 cases hx:oneAV x with
 | true =>
   have h1:=oneAV_ok hx hv
   have e1:cellsOf x=[x]:=by
    cases x<;>first|rfl|cases hx|skip
    rename_i x
    cases x<;>first|rfl|cases hx
   have e2:v.cells = #[v]:=by cases v<;>first|rfl|(simp [Value.oneCell'] at h1)
   rw [e1,e2]
   simp only [VRs]
   exact ⟨v,[],rfl,h1,hv,rfl⟩
 | false =>
   cases x with
   | agg cs =>
     simp only [VR] at hv
     obtain ⟨us,rfl,h⟩:=hv
     exact h
   | tup vs=>simp [cellsOf] at hne
   | d x =>
     cases x with
     | any=>simp [cellsOf] at hne
     | _=>cases hx
   | _=>cases hx
def aggB:AV→Bool | .agg _=>true|_=>false
def cellsB (size:Nat) (x:AV):Bool:=Nat.beq (cellsOf x).length size&&(aggB x || !(Nat.beq (cellsOf x).length 0))
theorem cellsB_ok {size:Nat} {x:AV} (h:cellsB size x=true):(cellsOf x).length=size∧(cellsOf x≠[]∨∃ cs,x = .agg cs):=by
 simp only [cellsB,Bool.and_eq_true,Bool.or_eq_true] at h
 refine ⟨Nat.eq_of_beq_eq_true h.1,?_⟩
 rcases h.2 with h2|h2
 ·cases x with
  | agg cs=>exact .inr ⟨_,rfl⟩
  | _=>cases h2
 ·refine .inl ?_
  intro e
  rw [e] at h2
  cases h2
def toDK (x:AV) (L:List AB) (K:DV→List AB→Prop):Prop :=
 match x with
 | .d x=>K x L
 | .arr j=>lgetK L j fun ab=>match ab with
   | .row e n xs _=>lsetK L j (.row e n xs true) fun L'=>K (.sl n xs) L'
   | _=>False
 | _=>False
theorem toDK_ok {c:Ctx} (hc:c.wf) {E:Nat→Option Nat} {L:List AB} {w:World} (hs:SimH c E L w) {x:AV} {K:DV→List AB→Prop} (h:toDK x L K) {v:Value} (hv:VR (rcOf c.M0 E L w) x v) :
  ∃ d L',K d L'∧L'.length=L.length∧SimH c E L' w∧(rcOf c.M0 E L w).le (rcOf c.M0 E L' w)∧VD (rcOf c.M0 E L' w).rd d v:=by
 cases x<;>first|exact h.elim|skip
 case d x=>exact ⟨x,L,h,rfl,hs,.refl _,by simpa [VR] using hv⟩
 case arr j =>
  obtain ⟨ab,hab,h1⟩:=lgetK_ok h
  cases ab<;>simp only at h1<;>first|exact h1.elim|skip
  obtain ⟨hs',hle,hsl⟩:=hs.close hc hab
  exact ⟨_,_,lsetK_ok h1,by simp,hs',hle,by simpa [VR] using hsl v hv⟩
def norm1 (x:DV):DV :=
 match x with
 | .nils => .sl 1 []
 | x=>x
theorem norm1_ok {rd:Addr→Value→Prop} {x:DV} {v:Value} (h:VD rd x v):VD rd (norm1 x) v:=by
 cases x<;>first|exact h|skip
 simp only [VD] at h
 subst h
 simp only [norm1,VD]
 exact ⟨by simp,none,0,rfl,by simp,by simp [maxLen],fun _=>rfl,(fun _ h=>by cases h)⟩
theorem norm1s_ok {rd:Addr→Value→Prop}:∀ {xs:List DV} {us:List Value},VDs rd xs us→VDs rd (xs.map norm1) us
 | [],us,h=>h
 | x :: xs,us,h=>by
   simp only [VDs,Cs,List.map_cons] at h ⊢
   obtain ⟨u,us',e,h0,h1,h2⟩:=h
   exact ⟨u,us',e,h0,norm1_ok h1,norm1s_ok h2⟩
def norm1K (x:DV) (K:DV→Prop):Prop :=
 match x with
 | .nils=>K (.sl 1 [])
 | x=>K x
theorem norm1K_ok {x:DV} {K:DV→Prop} (h:norm1K x K):K (norm1 x):=by cases x<;>exact h
def overD (cs:List DV) (n:Nat) (vs:List DV):List DV:=cs.take n++vs++cs.drop (n+vs.length)
theorem setM_not {b:Nat} {cs:List DV}:∀ {es:List (KV×MV)},b∉boxesM es→setM b cs es=es
 | [],_=>rfl
 | (k,.box b' c) :: r,h=>by
   simp only [boxesM,List.mem_cons,not_or] at h
   simp only [setM]
   cases hb:Nat.beq b' b with
   | true=>exact absurd (Nat.eq_of_beq_eq_true hb).symm h.1
   | false=>simp only [cond_false,setM_not h.2]
 | (k,.v x) :: r,h=>by
   simp only [boxesM] at h
   simp only [setM,setM_not h]
theorem setM_at {b:Nat} {cs c:List DV} {k:KV}:∀ {es:List (KV×MV)} {i:Nat},(boxesM es).Nodup→es[i]? = some (k,.box b c)→setM b cs es=es.set i (k,.box b cs)∧(b,c)∈boxcsM es
 | [],i,_,h=>by simp at h
 | (k',.box b' c') :: r,i,hn,h=>by
   simp only [boxesM,List.nodup_cons] at hn
   cases i with
   | zero =>
     simp at h
     obtain ⟨rfl,rfl,rfl⟩:=h
     simp only [setM,Nat.beq_refl,cond_true,List.set_cons_zero,setM_not hn.1,boxcsM]
     exact ⟨trivial,by simp⟩
   | succ i =>
     simp only [List.getElem?_cons_succ] at h
     obtain ⟨h1,h2⟩:=setM_at (cs:=cs) hn.2 h
     have hb:b'≠b:=by rintro rfl;exact hn.1 (boxcsM_boxes h2)
     have hbb:Nat.beq b' b=false:=by
      cases hq:Nat.beq b' b with
      | true=>exact absurd (Nat.eq_of_beq_eq_true hq) hb
      | false=>rfl
     simp only [setM,hbb,cond_false,List.set_cons_succ,h1,boxcsM]
     exact ⟨trivial,by simp [h2]⟩
 | (k',.v x) :: r,i,hn,h=>by
   simp only [boxesM] at hn
   cases i with
   | zero=>simp at h
   | succ i =>
     simp only [List.getElem?_cons_succ] at h
     obtain ⟨h1,h2⟩:=setM_at (cs:=cs) hn h
     simp only [setM,List.set_cons_succ,h1,boxcsM]
     exact ⟨trivial,h2⟩
def storeK (i:TI) (L:List AB) (x v:AV) (K:List AB→Prop):Prop :=
 bif cellsB i.size v then
  match x with
  | .ptr j off=>lgetK L j fun ab=>match ab with
    | .cells cs=>putK cs off (cellsOf v) fun cs'=>lsetK L j (.cells cs') K
    | _=>False
  | .mp _ b off=>bif oneAV v then toDK v L fun d L'=>(∃ (m:Nat) (es:List (KV×MV)) (i:Nat) (k:KV) (cs:List DV),L'[m]? = some (.map es)∧es[i]? = some (k,.box b cs)∧off<cs.length∧∀ L'',L''=L'.set m (.map (es.set i (k,.box b (overD cs off [norm1 d]))))→K L'')∨(∃ (m:Nat) (cs:List DV),L'[m]? = some (.pool b cs)∧off<cs.length∧∀ L'',L''=L'.set m (.pool b (overD cs off [norm1 d]))→K L'') else False
  | _=>False
 else False
theorem storeK_ok {P:Program} {tt:TypeId→Option TI} (ht:TTok P tt) {t:TypeId} {i:TI} (hi:tt t=some i) {c:Ctx} (hc:c.wf) {E:Nat→Option Nat} {L:List AB} {w:World} (hs:SimH c E L w)
  {x v:AV} {K:List AB→Prop} (h:storeK i L x v K) {p u:Value} (hp:VR (rcOf c.M0 E L w) x p) (hu:VR (rcOf c.M0 E L w) v u) :
  ∃ w' L',(Instr.storeAt t p u).run P w = .ok () w'∧K L'∧SimH c E L' w'∧(rcOf c.M0 E L w).le (rcOf c.M0 E L' w'):=by
 unfold storeK at h
 cases hsz:cellsB i.size v with
 | false=>rw [hsz] at h;exact h.elim
 | true =>
   rw [hsz] at h
   simp only [cond_true] at h
   obtain ⟨hlen,hne⟩:=cellsB_ok hsz
   have hcs:=cellsOf_ok hne hu
   obtain ⟨hu',info,k1,k2,k3,k4⟩:=ht t i hi
   cases x<;>first|exact h.elim|skip
   case ptr j off =>
    simp only [VR] at hp
    obtain ⟨b,⟨ab',hab',_,hE⟩,rfl⟩:=hp
    obtain ⟨ab,hab,h2⟩:=lgetK_ok h
    cases ab with
    | cells cs =>
      obtain ⟨hov,h3⟩:=putK_ok h2
      have h4:=lsetK_ok h3
      obtain ⟨b',cur,e,hb',hh,hvs⟩:=hs.blk j _ hab
      rw [hE] at hb';cases hb'
      have hul:u.cells.toList.length=(cellsOf v).length:=VRs_length hcs
      have hcl:cur.toList.length=cs.length:=VRs_length hvs
      by_cases hnil:cellsOf v=[]
      · -- nothing is written
        have hu0:u.cells.toList=[]:=List.eq_nil_of_length_eq_zero (by rw [hul,hnil];rfl)
        have hL:over cs off (cellsOf v)=cs:=by rw [hnil];simp [over]
        rw [hL] at h4
        have hLs:L.set j (.cells cs)=L:=by
         apply List.ext_getElem?
         intro m
         by_cases hmj:m=j
         ·subst hmj;rw [getElem?_set_same hab,hab]
         ·rw [getElem?_set_other hmj]
        rw [hLs] at h4
        refine ⟨w,L,?_,h4,hs,RC.le.refl _⟩
        have hz:i.size=0:=by rw [← hlen,hnil];rfl
        have hu1:u.cells.size=0:=by rw [← Array.length_toList,hu0];rfl
        simp only [Instr.storeAt,Instr.sureAddr,storeVar,Sem.run_bind,Sem.run_pure,Result.andThen_ok,run_sizeOf k1,k3,hz,hu1,hu0]
        rfl
      ·have hov':off+(cellsOf v).length≤cs.length:=by
        rcases hov with h|h
        ·exact absurd h hnil
        ·exact h
       have hst:=run_storeCells_at P b off e u.cells.toList 0 cur w hh (by rw [hul,← Array.length_toList,hcl];omega) (VRs_one hcs)
       simp only [Nat.add_zero] at hst
       have hvs':VRs (rcOf c.M0 E L w) (over cs off (cellsOf v)) (cur.toList.take off++u.cells.toList++cur.toList.drop (off+u.cells.toList.length)):=by
        unfold over
        rw [hul]
        exact VRs_append (VRs_append (VRs_take off hvs) hcs) (VRs_drop _ hvs)
       obtain ⟨hs',hle⟩:=hs.store hab hE hh (cs':=over cs off (cellsOf v)) (cur':=(cur.toList.take off++u.cells.toList++cur.toList.drop (off+u.cells.toList.length)).toArray) (by simpa using hvs') (by simp [over];omega)
       refine ⟨_,_,?_,h4,hs',hle⟩
       have hu1:u.cells.size=i.size:=by rw [← Array.length_toList,hul,hlen]
       simp only [Instr.storeAt,Instr.sureAddr,storeVar,Sem.run_bind,Sem.run_pure,Result.andThen_ok,run_sizeOf k1,k3,hu1]
       rw [if_neg (by simp)]
       exact hst
    | _=>exact h2.elim
   case mp j b off =>
    simp only [VR] at hp
    subst hp
    simp only at h
    cases hone:oneAV v with
    | false=>rw [hone] at h;exact h.elim
    | true =>
      rw [hone] at h
      simp only [cond_true] at h
      obtain ⟨d,L',h1,_,hs1,hle1,hd⟩:=toDK_ok hc hs h hu
      have h1:∃ (m:Nat) (ab:AB) (cs:List DV),L'[m]? = some ab∧(b,cs)∈ab.boxcs∧off<cs.length∧∀ L'',L''=L'.set m (ab.setBox b (overD cs off [norm1 d]))→K L'':=by
       rcases h1 with ⟨m,es,i,k,cs,h1,h2,h3,h4⟩|⟨m,cs,h1,h2,h3⟩
       ·obtain ⟨q1,q2⟩:=setM_at (cs:=overD cs off [norm1 d]) (hs1.bx.nd m _ h1) h2
        exact ⟨m,.map es,cs,h1,q2,h3,fun L'' hL=>h4 L'' (by rw [hL];simp only [AB.setBox,q1])⟩
       ·exact ⟨m,.pool b cs,cs,h1,by simp [AB.boxcs],h2,fun L'' hL=>h3 L'' (by rw [hL];simp [AB.setBox])⟩
      obtain ⟨m,ab,cs,hm,hb,hoff,hK⟩:=h1
      obtain ⟨cur,e,hh,hvs⟩:=(hs1.blk m ab hm).box hb
      have hcl:cur.toList.length=cs.length:=Cs_length hvs
      have hu1:=oneAV_ok hone hu
      have e2:u.cells = #[u]:=by cases u<;>first|rfl|(simp [Value.oneCell'] at hu1)
      have e1:cellsOf v=[v]:=by
       cases v<;>first|rfl|cases hone|skip
       rename_i x
       cases x<;>first|rfl|cases hone
      have hsz1:i.size=1:=by rw [← hlen,e1];rfl
      have hst:=run_storeCells_at P b off e [u] 0 cur w hh (by rw [← Array.length_toList,hcl];simp;omega) (by simpa using hu1)
      simp only [Nat.add_zero] at hst
      have hvs':VDs (rcOf c.M0 E L' w).rd (overD cs off [norm1 d]) (cur.toList.take off++[u]++cur.toList.drop (off+1)):=by
       unfold overD
       exact Cs_append (Cs_append (Cs_take off hvs) (by simp only [Cs];exact ⟨u,[],rfl,hu1,norm1_ok hd,rfl⟩)) (Cs_drop _ hvs)
      obtain ⟨hs',hle⟩:=hs1.storeBox hm hb hh (cs':=overD cs off [norm1 d]) (cur':=(cur.toList.take off++[u]++cur.toList.drop (off+1)).toArray) (by have:cur.toList.length=cur.size:=Array.length_toList;simp;omega) (by simpa using hvs')
      refine ⟨_,_,?_,hK _ rfl,hs',hle1.trans hle⟩
      simp only [Instr.storeAt,Instr.sureAddr,storeVar,Sem.run_bind,Sem.run_pure,Result.andThen_ok,run_sizeOf k1,k3,e2,hsz1]
      rw [if_neg (by simp)]
      simpa using hst
def fieldOff (fs:List Field) (k:Nat):Option (Nat×Nat) :=
 match fs,k with
 | [],_=>none
 | f :: _,0=>some (f.offset,f.type)
 | _ :: r,k+1=>fieldOff r k
theorem fieldOff_ok:∀ {fs:List Field} {k:Nat} {o t:Nat},fieldOff fs k=some (o,t)→∃ f,fs[k]? = some f∧f.offset=o∧f.type=t
 | [],_,_,_,h=>by cases h
 | f :: _,0,o,t,h=>by simp [fieldOff] at h;exact ⟨f,by simp,h⟩
 | _ :: r,k+1,o,t,h=>by
   obtain ⟨f,h1,h2⟩:=fieldOff_ok (fs:=r) h
   exact ⟨f,by simpa using h1,h2⟩
def structFs:TypeDesc→List Field
 | .struct fs=>fs.toList
 | _=>[]
def fieldAddrK (tt:TypeId→Option TI) (s:TypeId) (k:Nat) (L:List AB) (x:AV) (K:AV→Prop):Prop :=
 ttK tt s fun i=>match fieldOff (structFs i.desc) k with
  | some (o,t)=>ttK tt t fun it=>bif Nat.beq it.size 0 then False else
    match x with
    | .ptr j off=>K (.ptr j (off+o))
    | .im cs off=>bif Nat.ble (off+o) cs.length then K (.im cs (off+o)) else False
    | .ap j m off=>lgetK L j fun ab=>bif AB.live ab then K (.ap j m (off+o)) else False
    | .mp j b off=>K (.mp j b (off+o))
    | _=>False
  | none=>False
theorem fieldAddrK_ok {P:Program} {tt:TypeId→Option TI} (ht:TTok P tt) {s:TypeId} {k:Nat} {c:Ctx} {E:Nat→Option Nat} {L:List AB} {w:World}
  {x:AV} {K:AV→Prop} (h:fieldAddrK tt s k L x K) {v:Value} (hv:VR (rcOf c.M0 E L w) x v) :
  ∃ r av,(Instr.fieldAt s v k).run P w = .ok r w∧K av∧VR (rcOf c.M0 E L w) av r:=by
 obtain ⟨i,hi,h1⟩:=ttK_ok h
 split at h1
 ·rename_i o t hf
  obtain ⟨f,hf1,rfl,rfl⟩:=fieldOff_ok hf
  obtain ⟨it,hit,h2⟩:=ttK_ok h1
  cases hz:Nat.beq it.size 0 with
  | true=>rw [hz] at h2;exact h2.elim
  | false =>
    rw [hz] at h2
    simp only [cond_false] at h2
    obtain ⟨hu,info,k1,k2,k3,k4⟩:=ht s i hi
    obtain ⟨hu',info',k1',k2',k3',k4'⟩:=ht f.type it hit
    have hne:info'.size≠0:=by rw [k3'];intro e;rw [e] at hz;cases hz
    cases hd:i.desc with
    | struct fs =>
      rw [hd] at hu hf1
      have hf2:fs[k]? = some f:=by simpa [structFs] using hf1
      have key:∀ a:Addr,a.spot=none→(Instr.fieldAt s (.pointer (some a)) k).run P w = .ok (.pointer (some ⟨a.block,a.off+f.offset,none⟩)) w:=by
       intro a ha
       simp only [Instr.fieldAt,Sem.run_bind,run_underlying hu,Result.andThen_ok,hf2,Instr.sureAddr,fieldPlace,Sem.run_pure,run_sizeOf k1',hne,if_false]
       rw [add_lit a ha]
      cases x<;>first|exact h2.elim|skip
      case ptr j off =>
       simp only [VR] at hv
       obtain ⟨b,hb,rfl⟩:=hv
       exact ⟨_,_,key _ rfl,h2,by simp only [VR];exact ⟨b,hb,rfl⟩⟩
      case im cs off =>
       simp only [VR] at hv
       obtain ⟨a,rfl,hsp,hlen,hvrc⟩:=hv
       replace h2:(bif Nat.ble (off+f.offset) cs.length then K (.im cs (off+f.offset)) else False):=h2
       cases hble:Nat.ble (off+f.offset) cs.length with
       | false=>rw [hble] at h2;exact h2.elim
       | true =>
         rw [hble] at h2
         exact ⟨_,_,key _ rfl,h2,by simp only [VR];exact ⟨a,by simp [Nat.add_assoc],hsp,Nat.le_of_ble_eq_true hble,hvrc⟩⟩
      case ap j m off =>
       simp only [VR] at hv
       obtain ⟨ab,hab,hr⟩:=hv
       obtain ⟨ab',hab',h3⟩:=lgetK_ok h2
       rw [hab] at hab';cases hab'
       cases ab with
       | cells cs=>exact hr.elim
       | row e n xs sh =>
         obtain ⟨b,hb,rfl⟩:=hr
         exact ⟨_,_,key _ rfl,h3,by simp only [VR];exact ⟨_,hab,b,hb,by simp [Nat.add_assoc]⟩⟩
       | map es=>exact hr.elim
       | pool b cs=>exact hr.elim
       | obj o=>exact hr.elim
       | obs o n cap=>exact hr.elim
       | isle lo n ok=>exact hr.elim
       | dead=>exact h3.elim
      case mp j b off =>
       simp only [VR] at hv
       subst hv
       exact ⟨_,_,key _ rfl,h2,by simp [VR,Nat.add_assoc]⟩
    | _=>rw [hd] at hf1;simp [structFs] at hf1
 ·exact h1.elim
end
end Go.Ab
namespace Go.Ab
noncomputable section
open Go.RowKit
def extractK (x:AV) (k:Nat) (K:AV→Prop):Prop :=
 match x with
 | .tup vs=>nthK vs k K
 | _=>False
theorem VRt_get {R:RC}:∀ {xs:List AV} {us:List Value},VRt R xs us→∀ {i:Nat} {x:AV},xs[i]? = some x→∃ u,us[i]? = some u∧VR R x u
 | [],us,h,i,x,hx=>by simp at hx
 | y :: xs,us,h,i,x,hx=>by
   simp only [VRt] at h
   obtain ⟨u,us',rfl,h1,h2⟩:=h
   cases i with
   | zero=>simp at hx;subst hx;exact ⟨u,by simp,h1⟩
   | succ i=>simp only [List.getElem?_cons_succ] at hx ⊢;exact VRt_get h2 hx
theorem extractK_ok {P:Program} {w:World} {x:AV} {k:Nat} {K:AV→Prop} (h:extractK x k K) {R:RC} {v:Value} (hv:VR R x v) :
  ∃ r av,(Instr.extract v k).run P w = .ok r w∧K av∧VR R av r:=by
 cases x<;>first|exact h.elim|skip
 case tup vs =>
  simp only [VR] at hv
  obtain ⟨us,rfl,hvt⟩:=hv
  obtain ⟨c,h1,h2⟩:=nthK_ok h
  obtain ⟨u,k1,k2⟩:=VRt_get hvt h1
  refine ⟨u,c,?_,h2,k2⟩
  have:us[k]? = some u:=by simpa using k1
  simp [Instr.extract,this]
def fieldK (tt:TypeId→Option TI) (s:TypeId) (k:Nat) (x:AV) (K:AV→Prop):Prop :=
 ttK tt s fun i=>match fieldOff (structFs i.desc) k with
  | some (o,t)=>ttK tt t fun it=>match x with
    | .agg cs=>readK it cs o K
    | _=>False
  | none=>False
theorem fieldK_ok {P:Program} {tt:TypeId→Option TI} (ht:TTok P tt) {w:World} {s:TypeId} {k:Nat} {x:AV} {K:AV→Prop} (h:fieldK tt s k x K) {R:RC} {v:Value} (hv:VR R x v) :
  ∃ r av,(Instr.field s v k).run P w = .ok r w∧K av∧VR R av r:=by
 obtain ⟨i,hi,h1⟩:=ttK_ok h
 split at h1
 ·rename_i o t hf
  obtain ⟨f,hf1,rfl,rfl⟩:=fieldOff_ok hf
  obtain ⟨it,hit,h2⟩:=ttK_ok h1
  obtain ⟨hu,info,k1,k2,k3,k4⟩:=ht s i hi
  obtain ⟨hu',info',k1',k2',k3',k4'⟩:=ht f.type it hit
  cases hd:i.desc with
  | struct fs =>
    rw [hd] at hu hf1
    have hf2:fs[k]? = some f:=by simpa [structFs] using hf1
    cases x<;>first|exact h2.elim|skip
    case agg cs =>
     simp only [VR] at hv
     obtain ⟨us,rfl,hvs⟩:=hv
     have e0:(Instr.field s (.agg us) k).run P w=(part f.type us f.offset).run P w:=by
      simp [Instr.field,run_underlying hu,hf2,asAgg]
     rw [e0]
     simp only at h2
     unfold readK at h2
     unfold part
     simp only [Sem.run_bind,run_isAgg hu',Result.andThen_ok]
     cases hda:isAggD it.desc with
     | true =>
       rw [hda] at h2
       obtain ⟨h3,h4⟩:=dropK_ok h2
       obtain ⟨h5,h6⟩:=takeK_ok h4
       refine ⟨.agg (us.extract f.offset (f.offset+info'.size)),_,?_,h6,?_⟩
       ·simp [run_sizeOf k1']
       ·simp only [VR]
        refine ⟨_,rfl,?_⟩
        have:=VRs_take it.size (VRs_drop f.offset hvs)
        rw [k3']
        simpa [Array.toList_extract,List.extract_eq_take_drop] using this
     | false =>
       rw [hda] at h2
       obtain ⟨c,h3,h4⟩:=nthK_ok h2
       obtain ⟨u,l1,l2,l3⟩:=VRs_get hvs h3
       refine ⟨u,c,?_,h4,l3⟩
       have:us[f.offset]? = some u:=by simpa using l1
       simp [this]
  | _=>rw [hd] at hf1;simp [structFs] at hf1
 ·exact h1.elim
def nilCheckK (x:AV) (K:AV→Prop):Prop :=
 match x with
 | .ptr i o=>K (.ptr i o)
 | .im cs o=>K (.im cs o)
 | .mp i b o=>K (.mp i b o)
 | _=>False
theorem nilCheckK_ok {x:AV} {K:AV→Prop} (h:nilCheckK x K) {R:RC} {v:Value} (hv:VR R x v):∃ a,v = .pointer (some a)∧K x:=by
 cases x<;>first|exact h.elim|skip
 case ptr i o=>simp only [VR] at hv;obtain ⟨b,_,rfl⟩:=hv;exact ⟨_,rfl,h⟩
 case im cs o=>simp only [VR] at hv;obtain ⟨b,rfl,_⟩:=hv;exact ⟨_,rfl,h⟩
 case mp i b o=>simp only [VR] at hv;exact ⟨_,hv,h⟩
def isStrD:TypeDesc→Bool | .string=>true|_=>false
def sliceElem:TypeDesc→Option Nat | .slice e=>some e|_=>none
def isSliceD:TypeDesc→Bool | .slice _=>true|_=>false
def lenK' (L:List AB) (d:TypeDesc) (x:AV) (K:AV→Prop):Prop :=
 match x with
 | .d (.str s)=>bif isStrD d then K (.d (.int .i64 s.size)) else False
 | .d .nils=>bif isSliceD d then K (.d (.int .i64 0)) else False
 | .d (.sl _ xs)=>bif isSliceD d then K (.d (.int .i64 xs.length)) else False
 | .d (.slo _ xs)=>bif isSliceD d then K (.d (.int .i64 xs.length)) else False
 | .d (.slq _ xs)=>bif isSliceD d then K (.d (.int .i64 xs.length)) else False
 | .arr j=>bif isSliceD d then lgetK L j fun ab=>match ab with
   | .row _ _ xs _=>K (.d (.int .i64 xs.length))
   | .cells cs=>K (.d (.int .i64 cs.length))
   | _=>False
   else False
 | _=>False
theorem arr_len {c:Ctx} {E:Nat→Option Nat} {L:List AB} {w:World} (hs:SimH c E L w) {j e n:Nat} {xs:List (List DV)} {sh:Bool} (hj:L[j]? = some (.row e n xs sh)) {v:Value}
  (hv:VR (rcOf c.M0 E L w) (.arr j) v):∃ p k,v = .slice p xs.length k:=by
 simp only [VR] at hv
 obtain ⟨ab,hab,hr⟩:=hv
 rw [hj] at hab;cases hab
 simp only [arRel] at hr
 have hbr:=(hs.blk j _ hj).2.2
 cases hE:E j with
 | none=>rw [hE] at hr hbr;simp only at hr hbr;exact ⟨_,_,by rw [hr,hbr];rfl⟩
 | some b=>rw [hE] at hr;obtain ⟨cap,cur,h,_⟩:=hr;exact ⟨_,_,h⟩
theorem lenK'_ok {P:Program} {tt:TypeId→Option TI} (ht:TTok P tt) {t:TypeId} {i:TI} (hi:tt t=some i) {c:Ctx} {E:Nat→Option Nat} {L:List AB} {w:World} (hs:SimH c E L w)
  {x:AV} {K:AV→Prop} (h:lenK' L i.desc x K) {v:Value} (hv:VR (rcOf c.M0 E L w) x v) (ts:Array TypeId) (ty:TypeId) (hts:ts[0]? = some t) :
  ∃ z,(Builtin.len_ ts ty #[v]).run P w = .ok (.int .i64 z) w∧K (.d (.int .i64 z)):=by
 obtain ⟨hu,_⟩:=ht t i hi
 cases x<;>first|exact h.elim|skip
 case d x =>
  cases x<;>simp only [lenK'] at h<;>first|exact h.elim|skip
  case str s =>
   simp only [VR,VD] at hv;subst hv
   cases hd:i.desc<;>rw [hd] at h hu<;>simp only [isStrD,cond_false,cond_true] at h<;>first|exact h.elim|skip
   exact ⟨_,by simp [Builtin.len_,hts,run_underlying hu,goInt],h⟩
  case nils =>
   simp only [VR,VD] at hv;subst hv
   cases hd:i.desc<;>rw [hd] at h hu<;>simp only [isSliceD,cond_false,cond_true] at h<;>first|exact h.elim|skip
   exact ⟨0,by simp [Builtin.len_,hts,run_underlying hu,goInt],h⟩
  case sl n xs =>
   simp only [VR,VD] at hv
   obtain ⟨_,p,cap,rfl,_⟩:=hv
   cases hd:i.desc<;>rw [hd] at h hu<;>simp only [isSliceD,cond_false,cond_true] at h<;>first|exact h.elim|skip
   exact ⟨_,by simp [Builtin.len_,hts,run_underlying hu,goInt],h⟩
  case slo n xs =>
   simp only [VR,VD] at hv
   obtain ⟨_,p,cap,rfl,_⟩:=hv
   cases hd:i.desc<;>rw [hd] at h hu<;>simp only [isSliceD,cond_false,cond_true] at h<;>first|exact h.elim|skip
   exact ⟨_,by simp [Builtin.len_,hts,run_underlying hu,goInt],h⟩
  case slq n xs =>
   simp only [VR,VD] at hv
   obtain ⟨_,p,cap,rfl,_⟩:=hv
   cases hd:i.desc<;>rw [hd] at h hu<;>simp only [isSliceD,cond_false,cond_true] at h<;>first|exact h.elim|skip
   exact ⟨_,by simp [Builtin.len_,hts,run_underlying hu,goInt],h⟩
 case arr j =>
  simp only [lenK'] at h
  cases hd:i.desc<;>rw [hd] at h hu<;>simp only [isSliceD,cond_false,cond_true] at h<;>first|exact h.elim|skip
  obtain ⟨ab,hab,h2⟩:=lgetK_ok h
  cases ab<;>simp only at h2<;>first|exact h2.elim|skip
  ·simp only [VR] at hv
   obtain ⟨ab',hab',hr⟩:=hv
   rw [hab] at hab';cases hab'
   obtain ⟨b,_,rfl⟩:=hr
   exact ⟨_,by simp [Builtin.len_,hts,run_underlying hu,goInt],h2⟩
  obtain ⟨p,k,rfl⟩:=arr_len hs hab hv
  exact ⟨_,by simp [Builtin.len_,hts,run_underlying hu,goInt],h2⟩
def indexAddrK (tt:TypeId→Option TI) (t:TypeId) (L:List AB) (x ix:AV) (K:AV→Prop):Prop :=
 match ix with
 | .d (.int _ z)=>ttK tt t fun i=>match sliceElem i.desc with
   | some e=>ttK tt e fun ei=>match x with
     | .d (.sl n xs)=>bif Nat.beq ei.size n then 0≤z∧∃ cs,xs[z.toNat]? = some cs∧K (.im cs 0) else False
     | .d (.slo n xs)=>bif Nat.beq ei.size n then 0≤z∧∃ cs,xs[z.toNat]? = some cs∧K (.im cs 0) else False
     | .arr j=>lgetK L j fun ab=>match ab with
       | .row _ n xs _=>bif Nat.beq ei.size n then 0≤z∧z.toNat<xs.length∧K (.ap j z.toNat 0) else False
       | .cells cs=>bif Nat.beq ei.size 1 then 0≤z∧z.toNat<cs.length∧K (.ptr j z.toNat) else False
       | _=>False
     | _=>False
   | none=>False
 | _=>False
theorem run_indexAt {P:Program} {w:World} {t e:TypeId} (hu:P.underlying t=some (.slice e)) {info:TypeInfo} (hi:P.info? e=some info) (a:Addr) (ha:a.spot=none) (len cap:Nat) (k:IntKind) (z:Int) (h0:0≤z) (h1:z<len) :
  (Instr.indexAt t (.slice (some a) len cap) (.int k z)).run P w = .ok (.pointer (some ⟨a.block,a.off+z.toNat * info.size,none⟩)) w:=by
 simp only [Instr.indexAt,asIntOf,Sem.run_bind,Sem.run_pure,Result.andThen_ok,run_underlying hu]
 simp only [h0,h1,and_self,if_true,Sem.run_bind,run_sizeOf hi,Result.andThen_ok,Sem.run_pure]
 rw [add_lit a ha]
theorem indexAddrK_ok {P:Program} {tt:TypeId→Option TI} (ht:TTok P tt) {t:TypeId} {c:Ctx} {E:Nat→Option Nat} {L:List AB} {w:World} (hs:SimH c E L w)
  {x ix:AV} {K:AV→Prop} (h:indexAddrK tt t L x ix K) {v u:Value} (hv:VR (rcOf c.M0 E L w) x v) (hu:VR (rcOf c.M0 E L w) ix u) :
  ∃ r av,(Instr.indexAt t v u).run P w = .ok r w∧K av∧VR (rcOf c.M0 E L w) av r:=by
 unfold indexAddrK at h
 split at h
 ·rename_i k z
  simp only [VR,VD] at hu;subst hu
  obtain ⟨i,hi,h1⟩:=ttK_ok h
  split at h1
  ·rename_i e he
   obtain ⟨ei,hei,h2⟩:=ttK_ok h1
   obtain ⟨hut,_⟩:=ht t i hi
   obtain ⟨_,info,k1,k2,k3,k4⟩:=ht e ei hei
   have hd:i.desc = .slice e:=by
    revert he
    cases i.desc<;>simp [sliceElem]
   rw [hd] at hut
   cases x<;>first|exact h2.elim|skip
   case d x =>
    have hslo:∃ n xs,VR (rcOf c.M0 E L w) (.d (.slo n xs)) v∧(bif Nat.beq ei.size n then 0≤z∧∃ cs,xs[z.toNat]? = some cs∧K (.im cs 0) else False):=by
     cases x<;>first|exact h2.elim|skip
     ·rename_i n xs
      exact ⟨n,xs,VD_slo hv,h2⟩
     ·rename_i n xs
      exact ⟨n,xs,hv,h2⟩
    clear h2 hv
    obtain ⟨n,xs,hv,h2⟩:=hslo
    cases hb:Nat.beq ei.size n with
    | false=>rw [hb] at h2;exact h2.elim
    | true =>
      rw [hb] at h2
      obtain ⟨h0,cs,hcs,hK⟩:=h2
      simp only [VR,VD] at hv
      obtain ⟨hn,p,cap,rfl,hle,hle2,hnil,hp⟩:=hv
      have hlt:z.toNat<xs.length:=(List.getElem?_eq_some_iff.1 hcs).1
      cases p with
      | none=>have:=hnil rfl;omega
      | some a =>
        obtain ⟨hsp0,hvre⟩:=hp a rfl
        have hsp:a.spot=none:=hsp0.resolve_left (fun e=>by rw [e] at hlt;cases hlt)
        obtain ⟨hcl,hvrc⟩:=VDE_get n hvre hsp hcs
        refine ⟨_,_,run_indexAt hut k1 a hsp xs.length cap k z h0 (by omega),hK,?_⟩
        simp only [VR]
        have en:info.size=n:=by rw [k3];exact Nat.eq_of_beq_eq_true hb
        rw [en]
        exact ⟨⟨a.block,a.off+z.toNat * n,none⟩,rfl,rfl,by simp,hvrc⟩
   case arr j =>
    simp only at h2
    obtain ⟨ab,hab,h3⟩:=lgetK_ok h2
    cases ab<;>simp only at h3<;>first|exact h3.elim|skip
    ·rename_i cs
     cases hb:Nat.beq ei.size 1 with
     | false=>rw [hb] at h3;exact h3.elim
     | true =>
       rw [hb] at h3
       obtain ⟨h0,hlt,hK⟩:=h3
       simp only [VR] at hv
       obtain ⟨ab,hab',hr⟩:=hv
       rw [hab] at hab';cases hab'
       obtain ⟨b,hE,rfl⟩:=hr
       have en:info.size=1:=by rw [k3];exact Nat.eq_of_beq_eq_true hb
       refine ⟨_,_,run_indexAt hut k1 ⟨b,0,none⟩ rfl cs.length cs.length k z h0 (by omega),hK,?_⟩
       simp only [VR]
       rw [en]
       exact ⟨b,⟨_,hab,rfl,hE⟩,by simp⟩
    rename_i e' n xs sh
    cases hb:Nat.beq ei.size n with
    | false=>rw [hb] at h3;exact h3.elim
    | true =>
      rw [hb] at h3
      obtain ⟨h0,hlt,hK⟩:=h3
      simp only [VR] at hv
      obtain ⟨ab,hab',hr⟩:=hv
      rw [hab] at hab';cases hab'
      simp only [arRel] at hr
      have hbr:=(hs.blk j _ hab).2.2
      cases hE:E j with
      | none=>rw [hE] at hbr;simp only at hbr;subst hbr;simp at hlt
      | some b =>
        rw [hE] at hr
        obtain ⟨cap,cur,rfl,hh,hsz⟩:=hr
        have en:info.size=n:=by rw [k3];exact Nat.eq_of_beq_eq_true hb
        refine ⟨_,_,run_indexAt hut k1 ⟨b,0,none⟩ rfl xs.length cap k z h0 (by omega),hK,?_⟩
        simp only [VR]
        rw [en]
        exact ⟨_,hab,b,hE,by simp⟩
  ·exact h1.elim
 ·exact h.elim
def indexK (tt:TypeId→Option TI) (t:TypeId) (x ix:AV) (K:AV→Prop):Prop :=
 match x,ix with
 | .d (.str s),.d (.int _ z)=>ttK tt t fun i=>bif isStrD i.desc then 0≤z∧∃ b,s[z.toNat]? = some b∧K (.d (.int .u8 b.toNat)) else False
 | _,_=>False
theorem indexK_ok {P:Program} {tt:TypeId→Option TI} (ht:TTok P tt) {t:TypeId} {w:World} {R:RC} {x ix:AV} {K:AV→Prop} (h:indexK tt t x ix K) {v u:Value} (hv:VR R x v) (hu:VR R ix u) :
  ∃ r av,(Instr.index t v u).run P w = .ok r w∧K av∧VR R av r:=by
 unfold indexK at h
 split at h
 ·rename_i s k z
  simp only [VR,VD] at hv hu;subst hv;subst hu
  obtain ⟨i,hi,h1⟩:=ttK_ok h
  obtain ⟨hut,_⟩:=ht t i hi
  cases hd:i.desc<;>rw [hd] at h1 hut<;>simp only [isStrD,cond_false,cond_true] at h1<;>first|exact h1.elim|skip
  obtain ⟨h0,b,hb,hK⟩:=h1
  refine ⟨.int .u8 b.toNat,_,?_,hK,by simp [VR,VD]⟩
  simp only [Instr.index,asIntOf,Sem.run_bind,Sem.run_pure,Result.andThen_ok,run_underlying hut,h0,if_true,hb]
 ·exact h.elim
def boundK (d:Int) (x:Option AV) (K:Int→Prop):Prop :=
 match x with
 | none=>K d
 | some (.d (.int _ z))=>K z
 | some _=>False
theorem boundK_ok {d:Int} {x:Option AV} {K:Int→Prop} (h:boundK d x K) {R:RC} {v:Option Value} (hv:∀ a,x=some a→∃ u,v=some u∧VR R a u) (hn:x=none→v=none) :
  ∃ z,K z∧((x=none∧v=none∧z=d)∨∃ k,v=some (.int k z)):=by
 unfold boundK at h
 split at h
 ·exact ⟨d,h,.inl ⟨rfl,hn rfl,rfl⟩⟩
 ·rename_i k z
  obtain ⟨u,rfl,hu⟩:=hv _ rfl
  simp only [VR,VD] at hu;subst hu
  exact ⟨z,h,.inr ⟨k,rfl⟩⟩
 ·exact h.elim
theorem run_sliceBound' {P:Program} {w:World} (k:IntKind) (i:Int) (y:Nat) (code:BoundsCode) (h0:0≤i) (h1:i≤y):(Instr.sliceBound (.int k i) y code).run P w = .ok i.toNat w:=run_sliceBound (P:=P) (w:=w) k i y code h0 h1
theorem run_sliceBounds {P:Program} {w:World} (b:Bool) (len cap:Nat) (lo hi:Option Value) (l h:Int) (h0:0≤l) (h1:l≤h) (h2:h≤len) (hc:len≤cap)
  (hl:(lo=none∧l=0)∨∃ k,lo=some (.int k l)) (hh:(hi=none∧h=len)∨∃ k,hi=some (.int k h)) :
  (Instr.sliceBounds b len cap lo hi none).run P w = .ok (l.toNat,h.toNat,cap) w:=by
 unfold Instr.sliceBounds
 rcases hh with ⟨rfl,rfl⟩|⟨kh,rfl⟩
 ·rcases hl with ⟨rfl,rfl⟩|⟨kl,rfl⟩
  ·simp
  ·simp [run_sliceBound' kl l len _ h0 h1]
 ·have e1:=run_sliceBound' (P:=P) (w:=w) kh h cap (if b=true then BoundsCode.sliceAcap else .sliceAlen) (by omega) (by omega)
  rcases hl with ⟨rfl,rfl⟩|⟨kl,rfl⟩
  ·simp [e1]
  ·have e2:=run_sliceBound' (P:=P) (w:=w) kl l h.toNat BoundsCode.sliceB h0 (by omega)
   simp [e1,e2]
def subK (xs:List (List DV)) (n:Nat) (l h:Int) (K:AV→Prop):Prop:=0≤l∧l≤h∧h≤xs.length∧K (.d (.sl n ((xs.take h.toNat).drop l.toNat)))
def sliceK (tt:TypeId→Option TI) (t:TypeId) (L:List AB) (x:AV) (lo hi:Option AV) (K:AV→List AB→Prop):Prop :=
 ttK tt t fun i=>boundK 0 lo fun l=>match x with
  | .d (.str s)=>bif isStrD i.desc then boundK s.size hi fun h=>0≤l∧l≤h∧h≤s.size∧K (.d (.str (s.extract l.toNat h.toNat))) L else False
  | .d (.sl n xs)=>match sliceElem i.desc with
    | some e=>ttK tt e fun ei=>bif Nat.beq ei.size n then boundK xs.length hi fun h=>subK xs n l h fun v=>K v L else False
    | none=>False
  | .d (.slo n xs)=>match sliceElem i.desc with
    | some e=>ttK tt e fun ei=>bif Nat.beq ei.size n then boundK xs.length hi fun h=>0≤l∧l≤h∧h≤xs.length∧K (.d (.slo n ((xs.take h.toNat).drop l.toNat))) L else False
    | none=>False
  | .d .nils=>match sliceElem i.desc with
    | some e=>ttK tt e fun _=>boundK 0 hi fun h=>l=0∧h=0∧K (.d .nils) L
    | none=>False
  | .arr j=>match sliceElem i.desc with
    | some e=>ttK tt e fun ei=>lgetK L j fun ab=>match ab with
      | .row e' n xs _=>bif Nat.beq ei.size n then boundK xs.length hi fun h=>(lsetK L j (.row e' n xs true) fun L'=>subK xs n l h fun v=>K v L')∨(l=0∧0≤h∧h≤xs.length∧xs≠[]∧K (.sub j h.toNat) L) else False
      | _=>False
    | none=>False
  | _=>False
theorem VDE_take {rd:Addr→Value→Prop} (n:Nat):∀ {xs:List (List DV)} {a:Addr} (k:Nat),VDE rd n xs a→VDE rd n (xs.take k) a
 | xs,a,0,h=>by simp [VDE]
 | [],a,k+1,h=>by simp [VDE]
 | c :: xs,a,k+1,h=>by
   simp only [VDE] at h
   simp only [List.take_succ_cons,VDE]
   exact ⟨h.1,h.2.1,VDE_take n k h.2.2⟩
theorem VDE_drop {rd:Addr→Value→Prop} (n:Nat):∀ {xs:List (List DV)} {a:Addr} (k:Nat),a.spot=none→VDE rd n xs a→VDE rd n (xs.drop k) ⟨a.block,a.off+k * n,none⟩
 | xs,a,0,ha,h=>by simpa [addr_eta a ha] using h
 | [],a,k+1,ha,h=>by simp [VDE]
 | c :: xs,a,k+1,ha,h=>by
   simp only [VDE] at h
   have:=VDE_drop n k rfl h.2.2
   have e:a.off+n+k * n=a.off+(k+1) * n:=by rw [Nat.add_mul];omega
   simpa [e] using this
theorem sub_ok {P:Program} {w:World} {t e:TypeId} (hut:P.underlying t=some (.slice e)) {info:TypeInfo} (hie:P.info? e=some info) {R:RC} (hR:TkC R) {n:Nat} {xs:List (List DV)} {v:Value} (hn:info.size=n)
  (hv:VR R (.d (.sl n xs)) v) {lo hi:Option Value} {l h:Int} (h0:0≤l) (h1:l≤h) (h2:h≤xs.length)
  (hl:(lo=none∧l=0)∨∃ k,lo=some (.int k l)) (hh:(hi=none∧h=xs.length)∨∃ k,hi=some (.int k h)) :
  ∃ r,(Instr.sliceAt t v lo hi none).run P w = .ok r w∧VR R (.d (.sl n ((xs.take h.toNat).drop l.toNat))) r:=by
 simp only [VR,VD] at hv
 obtain ⟨hn0,p,cap,rfl,hle,hle2,hnil,hp⟩:=hv
 have hb:=run_sliceBounds (P:=P) (w:=w) true xs.length cap lo hi l h h0 h1 h2 hle hl hh
 refine ⟨.slice (if cap=l.toNat then p else p.map (·.add (l.toNat * info.size))) (h.toNat - l.toNat) (cap - l.toNat),?_,?_⟩
 ·unfold Instr.sliceAt
  simp only [Sem.run_bind,run_underlying hut,Result.andThen_ok]
  unfold Instr.slice
  simp only [Sem.run_bind,run_underlying hut,Result.andThen_ok,hb,run_sizeOf hie]
  rfl
 ·have hlen:((xs.take h.toNat).drop l.toNat).length=h.toNat - l.toNat:=by simp;omega
  simp only [VR,VD]
  refine ⟨hn0,_,cap - l.toNat,by rw [hlen],by omega,by omega,?_,?_⟩
  ·intro hnone
   cases p with
   | none=>have:=hnil rfl;omega
   | some a=>split at hnone<;>cases hnone
  ·intro a' ha'
   cases p with
   | none=>split at ha'<;>cases ha'
   | some a =>
     obtain ⟨hsp0,htk,hvre⟩:=hp a rfl
     have htk':0<cap - l.toNat→R.rd ⟨a'.block,a'.off,some n⟩ (.slice (some a') 0 (cap - l.toNat)):=by
      intro hc
      rw [if_neg (by omega)] at ha'
      simp only [Option.map_some,Option.some.injEq] at ha'
      by_cases h0l:l.toNat=0
      ·have e:a.add (l.toNat * info.size)=a:=by rw [h0l,Nat.zero_mul];simp [Addr.add]
       rw [e] at ha'
       subst ha'
       rw [h0l];exact htk (by omega)
      ·have hsp:a.spot=none:=hsp0.resolve_left (fun e=>by subst e;simp at h2;omega)
       rw [add_lit a hsp,hn] at ha'
       subst ha'
       exact hR a n cap l.toNat hn0 hsp (by omega) (htk (by omega))
     by_cases hx:(xs.take h.toNat).drop l.toNat=[]
     ·rw [hx];exact ⟨.inl rfl,htk',by simp [VDE]⟩
     have hsp:a.spot=none:=hsp0.resolve_left (fun e=>hx (by simp [e]))
     have hd:=VDE_drop n l.toNat hsp (VDE_take n h.toNat hvre)
     split at ha'
     ·rename_i hcl
      cases ha'
      refine ⟨.inr hsp,htk',?_⟩
      have:(xs.take h.toNat).drop l.toNat=[]:=List.eq_nil_of_length_eq_zero (by rw [hlen];omega)
      rw [this];simp [VDE]
     ·simp only [Option.map_some,Option.some.injEq] at ha'
      subst ha'
      rw [add_lit a hsp,hn] at htk' ⊢
      exact ⟨.inr rfl,htk',hd⟩
theorem sub_okO {P:Program} {w:World} {t e:TypeId} (hut:P.underlying t=some (.slice e)) {info:TypeInfo} (hie:P.info? e=some info) {R:RC} {n:Nat} {xs:List (List DV)} {v:Value} (hn:info.size=n)
  (hv:VR R (.d (.slo n xs)) v) {lo hi:Option Value} {l h:Int} (h0:0≤l) (h1:l≤h) (h2:h≤xs.length)
  (hl:(lo=none∧l=0)∨∃ k,lo=some (.int k l)) (hh:(hi=none∧h=xs.length)∨∃ k,hi=some (.int k h)) :
  ∃ r,(Instr.sliceAt t v lo hi none).run P w = .ok r w∧VR R (.d (.slo n ((xs.take h.toNat).drop l.toNat))) r:=by
 simp only [VR,VD] at hv
 obtain ⟨hn0,p,cap,rfl,hle,hle2,hnil,hp⟩:=hv
 have hb:=run_sliceBounds (P:=P) (w:=w) true xs.length cap lo hi l h h0 h1 h2 hle hl hh
 refine ⟨.slice (if cap=l.toNat then p else p.map (·.add (l.toNat * info.size))) (h.toNat - l.toNat) (cap - l.toNat),?_,?_⟩
 ·unfold Instr.sliceAt
  simp only [Sem.run_bind,run_underlying hut,Result.andThen_ok]
  unfold Instr.slice
  simp only [Sem.run_bind,run_underlying hut,Result.andThen_ok,hb,run_sizeOf hie]
  rfl
 ·have hlen:((xs.take h.toNat).drop l.toNat).length=h.toNat - l.toNat:=by simp;omega
  simp only [VR,VD]
  refine ⟨hn0,_,cap - l.toNat,by rw [hlen],by omega,by omega,?_,?_⟩
  ·intro hnone
   cases p with
   | none=>have:=hnil rfl;omega
   | some a=>split at hnone<;>cases hnone
  ·intro a' ha'
   cases p with
   | none=>split at ha'<;>cases ha'
   | some a =>
     obtain ⟨hsp0,hvre⟩:=hp a rfl
     by_cases hx:(xs.take h.toNat).drop l.toNat=[]
     ·rw [hx];exact ⟨.inl rfl,by simp [VDE]⟩
     have hsp:a.spot=none:=hsp0.resolve_left (fun e=>hx (by simp [e]))
     have hd:=VDE_drop n l.toNat hsp (VDE_take n h.toNat hvre)
     split at ha'
     ·rename_i hcl
      cases ha'
      refine ⟨.inr hsp,?_⟩
      have:(xs.take h.toNat).drop l.toNat=[]:=List.eq_nil_of_length_eq_zero (by rw [hlen];omega)
      rw [this];simp [VDE]
     ·simp only [Option.map_some,Option.some.injEq] at ha'
      subst ha'
      rw [add_lit a hsp,hn]
      exact ⟨.inr rfl,hd⟩
theorem sliceK_ok {P:Program} {tt:TypeId→Option TI} (ht:TTok P tt) {t:TypeId} {c:Ctx} (hc:c.wf) {E:Nat→Option Nat} {L:List AB} {w:World} (hs:SimH c E L w)
  {x:AV} {lo hi:Option AV} {K:AV→List AB→Prop} (h:sliceK tt t L x lo hi K) {v:Value} {lov hiv:Option Value} (hv:VR (rcOf c.M0 E L w) x v)
  (hlo:∀ a,lo=some a→∃ u,lov=some u∧VR (rcOf c.M0 E L w) a u) (hlon:lo=none→lov=none)
  (hhi:∀ a,hi=some a→∃ u,hiv=some u∧VR (rcOf c.M0 E L w) a u) (hhin:hi=none→hiv=none) :
  ∃ r av L',(Instr.sliceAt t v lov hiv none).run P w = .ok r w∧K av L'∧SimH c E L' w∧(rcOf c.M0 E L w).le (rcOf c.M0 E L' w)∧VR (rcOf c.M0 E L' w) av r:=by
 obtain ⟨i,hi',h1⟩:=ttK_ok h
 obtain ⟨l,h2,hl⟩:=boundK_ok h1 hlo hlon
 obtain ⟨hut,_⟩:=ht t i hi'
 have hl':(lov=none∧l=0)∨∃ k,lov=some (.int k l):=by
  rcases hl with ⟨_,a,b⟩|k
  ·exact .inl ⟨a,b⟩
  ·exact .inr k
 have idle:(rcOf c.M0 E L w).le (rcOf c.M0 E L w):=RC.le.refl _
 cases x<;>first|exact h2.elim|skip
 case d x =>
  cases x<;>first|exact h2.elim|skip
  all_goals simp only at h2
  case str s =>
   cases hd:i.desc<;>rw [hd] at h2 hut<;>simp only [isStrD,cond_false,cond_true] at h2<;>first|exact h2.elim|skip
   obtain ⟨z,⟨k0,k1,k2,hK⟩,hz⟩:=boundK_ok h2 hhi hhin
   simp only [VR,VD] at hv;subst hv
   have hz':(hiv=none∧z=s.size)∨∃ k,hiv=some (.int k z):=by
    rcases hz with ⟨_,a,b⟩|k
    ·exact .inl ⟨a,b⟩
    ·exact .inr k
   have hb:=run_sliceBounds (P:=P) (w:=w) false s.size s.size lov hiv l z k0 k1 k2 (Nat.le_refl _) hl' hz'
   refine ⟨.string (s.extract l.toNat z.toNat),_,L,?_,hK,hs,idle,by simp [VR,VD]⟩
   unfold Instr.sliceAt
   simp only [Sem.run_bind,run_underlying hut,Result.andThen_ok]
   unfold Instr.slice
   simp [Sem.run_bind,run_underlying hut,hb]
  case sl n xs =>
   split at h2
   ·rename_i e he
    obtain ⟨ei,hei,h3⟩:=ttK_ok h2
    obtain ⟨_,info,k1,k2,k3,k4⟩:=ht e ei hei
    have hd:i.desc = .slice e:=by
     revert he
     cases i.desc<;>simp [sliceElem]
    rw [hd] at hut
    cases hb:Nat.beq ei.size n with
    | false=>rw [hb] at h3;exact h3.elim
    | true =>
      rw [hb] at h3
      simp only [cond_true] at h3
      obtain ⟨z,⟨l0,l1,l2,hK⟩,hz⟩:=boundK_ok h3 hhi hhin
      have hz':(hiv=none∧z=xs.length)∨∃ k,hiv=some (.int k z):=by
       rcases hz with ⟨_,a,b⟩|k
       ·exact .inl ⟨a,b⟩
       ·exact .inr k
      obtain ⟨r,m1,m2⟩:=sub_ok (w:=w) hut k1 (tkc_rcOf _ _ _ _) (by rw [k3];exact Nat.eq_of_beq_eq_true hb) hv l0 l1 l2 hl' hz'
      exact ⟨r,_,L,m1,hK,hs,idle,m2⟩
   ·exact h2.elim
  case slo n xs =>
   split at h2
   ·rename_i e he
    obtain ⟨ei,hei,h3⟩:=ttK_ok h2
    obtain ⟨_,info,k1,k2,k3,k4⟩:=ht e ei hei
    have hd:i.desc = .slice e:=by
     revert he
     cases i.desc<;>simp [sliceElem]
    rw [hd] at hut
    cases hb:Nat.beq ei.size n with
    | false=>rw [hb] at h3;exact h3.elim
    | true =>
      rw [hb] at h3
      simp only [cond_true] at h3
      obtain ⟨z,⟨l0,l1,l2,hK⟩,hz⟩:=boundK_ok h3 hhi hhin
      have hz':(hiv=none∧z=xs.length)∨∃ k,hiv=some (.int k z):=by
       rcases hz with ⟨_,a,b⟩|k
       ·exact .inl ⟨a,b⟩
       ·exact .inr k
      obtain ⟨r,m1,m2⟩:=sub_okO (w:=w) hut k1 (by rw [k3];exact Nat.eq_of_beq_eq_true hb) hv l0 l1 l2 hl' hz'
      exact ⟨r,_,L,m1,hK,hs,idle,m2⟩
   ·exact h2.elim
  case nils =>
   split at h2
   ·rename_i e he
    obtain ⟨ei,hei,h3⟩:=ttK_ok h2
    obtain ⟨_,info,k1,k2,k3,k4⟩:=ht e ei hei
    have hd:i.desc = .slice e:=by
     revert he
     cases i.desc<;>simp [sliceElem]
    rw [hd] at hut
    obtain ⟨z,⟨rfl,rfl,hK⟩,hz⟩:=boundK_ok h3 hhi hhin
    have hz':(hiv=none∧(0:Int)=(0:Nat))∨∃ k,hiv=some (.int k 0):=by
     rcases hz with ⟨_,a,b⟩|k
     ·exact .inl ⟨a,rfl⟩
     ·exact .inr k
    simp only [VR,VD] at hv;subst hv
    have hb:=run_sliceBounds (P:=P) (w:=w) true 0 0 lov hiv 0 0 (by omega) (by omega) (by omega) (Nat.le_refl _) hl' hz'
    refine ⟨.slice none 0 0,_,L,?_,hK,hs,idle,by simp [VR,VD]⟩
    unfold Instr.sliceAt
    simp only [Sem.run_bind,run_underlying hut,Result.andThen_ok]
    unfold Instr.slice
    simp only [Sem.run_bind,run_underlying hut,Result.andThen_ok,hb,run_sizeOf k1]
    rfl
   ·exact h2.elim
 case arr j =>
  simp only at h2
  split at h2
  ·rename_i e he
   obtain ⟨ei,hei,h3⟩:=ttK_ok h2
   obtain ⟨ab,hab,h4⟩:=lgetK_ok h3
   cases ab<;>simp only at h4<;>first|exact h4.elim|skip
   rename_i e' n xs sh
   obtain ⟨_,info,k1,k2,k3,k4⟩:=ht e ei hei
   have hd:i.desc = .slice e:=by
    revert he
    cases i.desc<;>simp [sliceElem]
   rw [hd] at hut
   cases hb:Nat.beq ei.size n with
   | false=>rw [hb] at h4;exact h4.elim
   | true =>
     rw [hb] at h4
     simp only [cond_true] at h4
     obtain ⟨z,h5,hz⟩:=boundK_ok h4 hhi hhin
     have hz':(hiv=none∧z=xs.length)∨∃ k,hiv=some (.int k z):=by
      rcases hz with ⟨_,a,b⟩|k
      ·exact .inl ⟨a,b⟩
      ·exact .inr k
     rcases h5 with h5|⟨l0,l1,l2,hne,hK⟩
     ·obtain ⟨l0,l1,l2,hK⟩:=lsetK_ok h5
      obtain ⟨hs',hle,hsl⟩:=hs.close hc hab
      obtain ⟨r,m1,m2⟩:=sub_ok (w:=w) hut k1 (tkc_rcOf _ _ _ _) (by rw [k3];exact Nat.eq_of_beq_eq_true hb) (hsl v hv) l0 l1 l2 hl' hz'
      exact ⟨r,_,_,m1,hK,hs',hle,m2⟩
     ·simp only [VR] at hv
      obtain ⟨ab',hab',hrel⟩:=hv
      rw [hab] at hab';cases hab'
      have hbr:=hs.blk j _ hab
      obtain ⟨_,hxlen,hbr2⟩:=hbr
      cases hE:E j with
      | none=>rw [hE] at hbr2;exact absurd hbr2 hne
      | some b =>
        simp only [arRel] at hrel
        rw [hE] at hbr2 hrel
        obtain ⟨cap,cur,rfl,hh,hsz⟩:=hrel
        obtain ⟨cap',cur',hh',hsz',hxc,hxm,hvx⟩:=hbr2
        rw [hh] at hh';cases hh'
        have hn0:0<n:=by
         rcases Nat.eq_zero_or_pos n with h0|h0
         ·subst h0
          rcases hs.blk j _ hab with ⟨h,_⟩;exact absurd h.1 (by omega)
         ·exact h0
        have ecap:cap=cap':=Nat.eq_of_mul_eq_mul_right hn0 (hsz.symm.trans hsz')
        subst ecap
        have hbb:=run_sliceBounds (P:=P) (w:=w) true xs.length cap lov hiv l z (by omega) (by omega) l2 hxc hl' hz'
        have hxp:0<xs.length:=List.length_pos_iff.2 hne
        refine ⟨.slice (some ⟨b,0,none⟩) z.toNat cap,_,L,?_,hK,hs,idle,?_⟩
        ·unfold Instr.sliceAt
         simp only [Sem.run_bind,run_underlying hut,Result.andThen_ok]
         unfold Instr.slice
         simp only [Sem.run_bind,run_underlying hut,Result.andThen_ok,hbb,run_sizeOf k1]
         subst l0
         have hc0:¬(cap=0):=by omega
         simp [hc0,add_lit]
        ·simp only [VR]
         exact ⟨_,cap,rfl,by omega,hxm,_,hab,by simp only [apRel];exact ⟨b,hE,by simp⟩⟩
  ·exact h2.elim
end
end Go.Ab
namespace Go.Ab
noncomputable section
open Go.RowKit
noncomputable def fillK (place:Nat→(Nat×Nat→Prop)→Prop) (cs:List AV) (ps:List (Nat×AV)):(List AV→Prop)→Prop :=
 List.rec (motive:=fun _=>List AV→(List AV→Prop)→Prop) (fun cs K=>K cs)
  (fun q _ ih cs K=>place q.1 fun p=>bif cellsB p.2 q.2 && !(Nat.beq p.2 0) then putK cs p.1 (cellsOf q.2) fun cs'=>ih cs' K else False) ps cs
theorem foldl_set (off:Nat):∀ (vs:List Value) (k:Nat) (cs:Array Value),off+k+vs.length≤cs.size →
  ((vs.zipIdx k).foldl (fun cs (c,j)=>cs.setIfInBounds (off+j) c) cs).toList=cs.toList.take (off+k)++vs++cs.toList.drop (off+k+vs.length)
 | [],k,cs,h=>by simp
 | v :: vs,k,cs,h=>by
   simp only [List.length_cons] at h
   have hlt:off+k<cs.toList.length:=by simp;omega
   simp only [List.zipIdx_cons,List.foldl_cons]
   rw [foldl_set off vs (k+1) _ (by simp;omega)]
   have e:(cs.setIfInBounds (off+k) v).toList=cs.toList.take (off+k)++v :: cs.toList.drop (off+k+1):=by
    rw [Array.toList_setIfInBounds,List.set_eq_take_append_cons_drop,if_pos hlt]
   rw [e]
   have hl:(cs.toList.take (off+k)).length=off+k:=by simp at hlt ⊢;omega
   have e1:(cs.toList.take (off+k)++v :: cs.toList.drop (off+k+1)).take (off+(k+1))=cs.toList.take (off+k)++[v]:=by
    rw [List.take_append,hl]
    have:off+(k+1) - (off+k)=1:=by omega
    rw [this,List.take_of_length_le (by omega)]
    simp
   have e2:(cs.toList.take (off+k)++v :: cs.toList.drop (off+k+1)).drop (off+(k+1)+vs.length)=cs.toList.drop (off+k+(v :: vs).length):=by
    rw [List.drop_append,hl]
    have h1:off+(k+1)+vs.length - (off+k)=vs.length+1:=by omega
    rw [h1,List.drop_eq_nil_of_le (by omega),List.nil_append,List.drop_succ_cons,List.drop_drop]
    congr 1
    simp;omega
   rw [e1,e2]
   simp
theorem fillK_ok {M0:MZ} {E:Nat→Option Nat} {L:List AB} {w:World} {place:Nat→(Nat×Nat→Prop)→Prop} {pl:Nat→Option (Nat×Nat)}
  (hp:∀ i (K:Nat×Nat→Prop),place i K→∃ p,pl i=some p∧K p) :
  ∀ {parts:List (Nat×AV)} {vals:List (Nat×Value)} {cs:List AV} {K:List AV→Prop} {cur:Array Value},fillK place cs parts K →
    vals.length=parts.length→(∀ (j i:Nat) (x:AV),parts[j]? = some (i,x)→∃ v,vals[j]? = some (i,v)∧VR (rcOf M0 E L w) x v)→VRs (rcOf M0 E L w) cs cur.toList →
    ∃ cs' cur',Instr.fill pl cur vals=some cur'∧K cs'∧VRs (rcOf M0 E L w) cs' cur'.toList∧cur'.size=cur.size
 | [],vals,cs,K,cur,h,hl,hv,hc=>by
   have:vals=[]:=List.eq_nil_of_length_eq_zero (by simpa using hl)
   subst this
   exact ⟨cs,cur,rfl,h,hc,rfl⟩
 | (i,x) :: parts,[],cs,K,cur,h,hl,hv,hc=>by simp at hl
 | (i,x) :: parts,(i',v) :: vals,cs,K,cur,h,hl,hv,hc=>by
   obtain ⟨v',hv1,hv2⟩:=hv 0 i x (by simp)
   simp only [List.getElem?_cons_zero,Option.some.injEq,Prod.mk.injEq] at hv1
   obtain ⟨rfl,rfl⟩:=hv1
   obtain ⟨p,hp1,h1⟩:=hp i' _ h
   cases hb:cellsB p.2 x with
   | false=>rw [hb] at h1;exact h1.elim
   | true =>
    cases hz:Nat.beq p.2 0 with
    | true=>rw [hb,hz] at h1;exact h1.elim
    | false =>
     rw [hb,hz] at h1
     simp only [Bool.and_self,Bool.not_false,cond_true] at h1
     have hz':p.2≠0:=by intro e;rw [e] at hz;cases hz
     obtain ⟨hlen,hne⟩:=cellsB_ok hb
     have hcs:=cellsOf_ok hne hv2
     have hvl:v.cells.toList.length=(cellsOf x).length:=VRs_length hcs
     have hcl:cur.toList.length=cs.length:=VRs_length hc
     obtain ⟨hov,h2⟩:=putK_ok h1
     have hvs:v.cells.size=p.2:=by rw [← Array.length_toList,hvl,hlen]
     have hne':cellsOf x≠[]:=by intro e;rw [e] at hlen;exact hz' hlen.symm
     have hov':p.1+(cellsOf x).length≤cs.length:=by
      rcases hov with h|h
      ·exact absurd h hne'
      ·exact h
     have hfit':p.1+v.cells.size≤cur.size:=by rw [hvs,← hlen,← Array.length_toList,hcl];exact hov'
     have hfo:=foldl_set p.1 v.cells.toList 0 cur (by simpa using hfit')
     have hvs':VRs (rcOf M0 E L w) (over cs p.1 (cellsOf x)) (v.cells.zipIdx.foldl (fun cs (c,j)=>cs.setIfInBounds (p.1+j) c) cur).toList:=by
      have e:v.cells.zipIdx.foldl (fun cs (c,j)=>cs.setIfInBounds (p.1+j) c) cur=(v.cells.toList.zipIdx 0).foldl (fun cs (c,j)=>cs.setIfInBounds (p.1+j) c) cur:=by
       rw [← Array.foldl_toList];simp [Array.toList_zipIdx]
      rw [e,hfo]
      unfold over
      simp only [Nat.add_zero]
      rw [hvl]
      exact VRs_append (VRs_append (VRs_take _ hc) hcs) (VRs_drop _ hc)
     obtain ⟨cs',cur',k1,k2,k3,k4⟩:=fillK_ok hp (parts:=parts) (vals:=vals) h2 (by simpa using hl) (fun j i y hy=>by
      obtain ⟨u,hu⟩:=hv (j+1) i y (by simpa using hy)
      exact ⟨u,by simpa using hu⟩) hvs'
     refine ⟨cs',cur',?_,k2,k3,?_⟩
     ·simp only [Instr.fill,hp1]
      rw [if_neg (by simp [hvs];omega)]
      exact k1
     ·rw [k4]
      have h3:=VRs_length hvs'
      have h4:=VRs_length hc
      rw [Array.length_toList] at h3 h4
      rw [h3,h4]
      unfold over
      simp
      omega
def placeK (tt:TypeId→Option TI) (fs:List Field) (k:Nat) (K:Nat×Nat→Prop):Prop :=
 match fieldOff fs k with
 | some (o,t)=>ttK tt t fun it=>K (o,it.size)
 | none=>False
def allIn (tt:TypeId→Option TI):List Field→Bool
 | []=>true
 | f :: r=>match tt f.type with
   | some _=>allIn tt r
   | none=>false
theorem places_of {P:Program} {tt:TypeId→Option TI} (ht:TTok P tt):∀ {fs:List Field},allIn tt fs=true →
  ∃ places,fs.mapM (fun f=>(P.info? f.type).map fun i=>(f.offset,i.size))=some places ∧
    ∀ (k:Nat) (f:Field),fs[k]? = some f→∀ it,tt f.type=some it→places[k]? = some (f.offset,it.size)
 | [],_=>⟨[],by simp,by simp⟩
 | f :: r,h=>by
   simp only [allIn] at h
   split at h
   ·rename_i it hit
    obtain ⟨pl,h1,h2⟩:=places_of ht h
    obtain ⟨_,info,k1,k2,k3,k4⟩:=ht _ _ hit
    refine ⟨(f.offset,info.size) :: pl,by simp [List.mapM_cons,k1,h1],fun k g hg it' hit' => ?_⟩
    cases k with
    | zero=>simp at hg;subst hg;rw [hit] at hit';cases hit';simp [k3]
    | succ k=>simp only [List.getElem?_cons_succ] at hg ⊢;exact h2 k g hg it' hit'
   ·cases h
def isStructD:TypeDesc→Bool | .struct _=>true|_=>false
def buildK (tt:TypeId→Option TI) (t:TypeId) (parts:List (Nat×AV)) (K:AV→Prop):Prop :=
 ttK tt t fun i=>bif isStructD i.desc&&(allIn tt (structFs i.desc)&&cellsB i.size (avOf i.zero)) then fillK (placeK tt (structFs i.desc)) (cellsOf (avOf i.zero)) parts fun cs=>K (.agg cs) else False
theorem buildK_ok {P:Program} {tt:TypeId→Option TI} (ht:TTok P tt) {t:TypeId} {M0:MZ} {E:Nat→Option Nat} {L:List AB} {w:World} {parts:List (Nat×AV)} {vals:Array (Nat×Value)} {K:AV→Prop}
  (h:buildK tt t parts K) (hl:vals.size=parts.length) (hv:∀ (j i:Nat) (x:AV),parts[j]? = some (i,x)→∃ v,vals[j]? = some (i,v)∧VR (rcOf M0 E L w) x v) :
  ∃ r av,(Instr.build t vals).run P w = .ok r w∧K av∧VR (rcOf M0 E L w) av r:=by
 obtain ⟨i,hi,h1⟩:=ttK_ok h
 obtain ⟨hu,info,k1,k2,k3,k4⟩:=ht t i hi
 cases hb:allIn tt (structFs i.desc) with
 | false=>rw [hb] at h1;simp at h1
 | true =>
   cases hb2:cellsB i.size (avOf i.zero) with
   | false=>rw [hb,hb2] at h1;simp at h1
   | true =>
    cases hb3:isStructD i.desc with
    | false=>rw [hb3] at h1;exact h1.elim
    | true =>
     rw [hb,hb2,hb3] at h1
     simp only [Bool.and_self,cond_true] at h1
     obtain ⟨hlen,hne⟩:=cellsB_ok hb2
     have hz:=cellsOf_ok hne (VR_avOf (rcOf M0 E L w) i.zero)
     obtain ⟨pl,p1,p2⟩:=places_of ht hb
     obtain ⟨cs',cur',m1,m2,m3,_⟩:=fillK_ok (pl:=fun k=>pl.toArray[k]?) (fun k K hK=>by
      unfold placeK at hK
      split at hK
      ·rename_i o t' hf
       obtain ⟨f,hf1,rfl,rfl⟩:=fieldOff_ok hf
       obtain ⟨it,hit,h2⟩:=ttK_ok hK
       exact ⟨_,by simpa using p2 k f hf1 it hit,h2⟩
      ·exact hK.elim) (vals:=vals.toList) h1 (by simpa using hl) (fun j i x hx=>by
       obtain ⟨v,hv1,hv2⟩:=hv j i x hx
       exact ⟨v,by simpa using hv1,hv2⟩) hz
     refine ⟨.agg cur',.agg cs',?_,m2,by simp only [VR];exact ⟨cur',rfl,m3⟩⟩
     refine run_build w t vals cur' ?_
     cases hd:i.desc with
     | struct fs =>
       rw [hd] at hu p1
       simp only [structFs] at p1
       unfold Program.built
       simp only [k1,hu,k2,p1]
       exact m1
     | _=>rw [hd] at hb3;cases hb3
def boxK (x:AV) (L:List AB) (K:AV→List AB→Prop):Prop :=
 bif oneAV x||aggB x then lpushK L (.cells (cellsOf x)) 0 fun i L'=>K (.ptr i 0) L' else False
theorem rc_ptr_new {c:Ctx} {E:Nat→Option Nat} {L:List AB} {w:World} {cs:List AV} {b:Nat} :
  VR (rcOf c.M0 (Eupd E L.length (some b)) (L++[.cells cs]) w) (.ptr L.length 0) (.pointer (some ⟨b,0,none⟩)):=by
 simp only [VR]
 exact ⟨b,⟨.cells cs,by simp,rfl,by simp [Eupd]⟩,rfl⟩
theorem SimH.newCells {c:Ctx} (hc:c.wf) {E:Nat→Option Nat} {L:List AB} {w:World} (hs:SimH c E L w) {cs:List AV} {cur:Array Value} (t:TypeId) (hv:VRs (rcOf c.M0 E L w) cs cur.toList) :
  SimH c (Eupd E L.length (some w.heap.size)) (L++[.cells cs]) (w.alloc (.cells cur t)) ∧
  (rcOf c.M0 E L w).le (rcOf c.M0 (Eupd E L.length (some w.heap.size)) (L++[.cells cs]) (w.alloc (.cells cur t))):=by
 have k:=Keeps.alloc w (.cells cur t)
 have hle:=le_extend (c:=c) (E:=E) (L:=L) k (.cells cs) (some w.heap.size) hs.bl (fun b hb=>by cases hb;exact Nat.le_refl _) (fun b hb=>by simp [AB.boxes] at hb)
 refine ⟨hs.extend hc k _ _ (fun b hb=>by cases hb;exact Nat.le_refl _) (fun b hb=>by simp [AB.boxes] at hb) (by simp [AB.boxes]) (fun b hb=>by simp [AB.boxes] at hb) ?_,hle⟩
 exact ⟨w.heap.size,cur,t,rfl,heap_alloc_new w _,VRs.mono hle _ _ hv⟩
theorem boxK_ok {P:Program} {c:Ctx} (hc:c.wf) {E:Nat→Option Nat} {L:List AB} {w:World} (hs:SimH c E L w) {x:AV} {K:AV→List AB→Prop} (h:boxK x L K) (t:TypeId) {v:Value} (hv:VR (rcOf c.M0 E L w) x v) :
  ∃ r w' E' av L',(Instr.box t v).run P w = .ok r w'∧K av L'∧SimH c E' L' w'∧(rcOf c.M0 E L w).le (rcOf c.M0 E' L' w')∧VR (rcOf c.M0 E' L' w') av r:=by
 unfold boxK at h
 cases hb:(oneAV x||aggB x) with
 | false=>rw [hb] at h;exact h.elim
 | true =>
   rw [hb] at h
   simp only [cond_true] at h
   have h1:=lpushK_ok h
   rw [Nat.zero_add] at h1
   have hne:cellsOf x≠[]∨∃ cs,x = .agg cs:=by
    cases x with
    | agg cs=>exact .inr ⟨_,rfl⟩
    | tup cs=>cases hb
    | d x =>
      cases x with
      | any=>cases hb
      | _=>exact .inl (by simp [cellsOf])
    | _=>exact .inl (by simp [cellsOf])
   have hvs:=cellsOf_ok hne hv
   obtain ⟨hs',hle⟩:=hs.newCells hc t hvs
   exact ⟨.pointer (some ⟨w.heap.size,0,none⟩),w.alloc (.cells v.cells t),_,_,_,by simp [Instr.box,newVar,newRow],h1,hs',hle,rc_ptr_new⟩
end
end Go.Ab
