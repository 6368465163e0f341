/- PrimaryExact: abstract runs. -/
import Derived.Test.YtolkmjfkkkiboaaGreatPrimaryExactLyu
set_option linter.all false
namespace Go.Ab
noncomputable section
open Go.RowKit
def z_ (o:Oper):Bool:=match o.op with
 | .load _ _=>true
 | .store _ _ _=>true
 | .nilCheck _=>true
 | .fieldAddr _ _ _=>true
 | .move _=>true
 | .assign _=>true
 | _=>false
theorem P6 {P:Program} {s:Sem Value} {w w':World} {d:Deferred}:((do pure (.value (<-s)):Sem Next).run P w) ≠ .ok (.defer d) w':=by
 simp only [Sem.run_bind,Sem.run_pure]
 cases s.run P w<;>simp [Result.andThen]
theorem TX {P:Program} {s:Sem Unit} {w w':World} {d:Deferred}:((do s;pure .skip:Sem Next).run P w) ≠ .ok (.defer d) w':=by
 simp only [Sem.run_bind,Sem.run_pure]
 cases s.run P w<;>simp [Result.andThen]
theorem P7 {P:Program} {o:Oper} (hq:z_ o=true) {ρ:Operand->Value} {w w':World} {d:Deferred}:(execOp ρ o).run P w ≠ .ok (.defer d) w':=by
 unfold z_ at hq
 cases WD:o.op<;>rw [WD] at hq<;>first|cases hq|skip
 all_goals
  unfold execOp;simp only [WD]
  first
   | exact P6
   | exact TX
   | (simp;done)
   | skip
 all_goals
  split
  all_goals first
   | (simp [runtimePanic];done)
   | skip
 split
 ·simp [runtimePanic]
 ·generalize nilAhead=g;rw [Sem.run_bind]
  cases Sem.run P program w with
  | halt x y=>simp [Result.andThen]
  | ok p w1 =>
    simp only [Result.andThen_ok];rw [Sem.run_bind]
    cases Sem.run P (g _ _ _ _) w1 with
    | halt x y=>simp [Result.andThen]
    | ok p2 w2 =>
      simp only [Result.andThen_ok];split
      ·generalize (unsupported _:Sem Unit)=s0;rw [Sem.run_bind]
       cases Sem.run P s0 w2<;>simp [Result.andThen]
      ·simp
 ·simp
theorem BA (a:Act) (ds:List Deferred) (d:Option Tmp) (v:Value):({ a with defers:=ds }:Act).put d v={ a.put d v with defers:=ds }:=by cases d<;>rfl
theorem XM {P:Program} {o:Oper} (hq:z_ o=true) (ds:List Deferred) {a:Act} {w:World} {K K':Act->World->Prop} {Q Q':Exit->Act->World->Prop} (hK:∀ a w,K' a w->K { a with defers:=ds } w) (hQ:∀ e a w,Q' e a w->Q e { a with defers:=ds } w) (h:o.wp P a w K' Q'):o.wp P { a with defers:=ds } w K Q:=by
 unfold Oper.wp at h ⊢;rw [show ({ a with defers:=ds }:Act).eval=a.eval from rfl];have hn:∀ w' d,(execOp a.eval o).run P w ≠ .ok (.defer d) w':=λw' d=>P7 hq;generalize (execOp a.eval o).run P w=r at h hn
 cases r with
 | ok x w' =>
   cases x with
   | value v=>show K _ _;rw [BA];exact hK _ _ h
   | skip=>show K _ _;rw [BA];exact hK _ _ h
   | defer d=>exact absurd rfl (hn w' d)
   | enter f args =>
     refine Calls.mono h ?_;intro e w'' he
     cases e with
     | returned v=>show K _ _;rw [BA];exact hK _ _ he
     | panicked ch=>exact hQ _ _ _ he
     | outgrown=>obtain ⟨a0,w0,h0⟩:=he;exact ⟨_,w0,hQ _ _ _ h0⟩
   | row r args=>exact Rows.mono h λv w'' he=>by show K _ _;rw [BA];exact hK _ _ he
   | _=>exact h.elim
 | halt x w'=>cases x<;>first|exact hQ _ _ _ h|exact h.elim
def LN (ops:List Oper):Bool:=ops.all z_
theorem afu {P:Program} {ops:Array Oper} (hq:LN ops.toList=true) (ds:List Deferred) {i:Nat} {a:Act} {w:World} {K K':Act->World->Prop} {Q Q':Exit->Act->World->Prop} (hl:¬LetsOut Q') (hK:∀ a w,K' a w->K { a with defers:=ds } w) (hQ:∀ e a w,Q' e a w->Q e { a with defers:=ds } w) (h:wpOp P ops Q' i K' a w):wpOp P ops Q i K { a with defers:=ds } w:=by
 unfold wpOp at h ⊢
 cases hi:ops[i]? with
 | none=>rw [hi] at h;exact hK _ _ h
 | some o =>
   rw [hi] at h;replace h:if Region.wanted o (yielded ops a.tmps)=true then o.wp P a w K' Q'∨(o.asks P a w/\LetsOut Q') else K' (a.put o.dst undef) w:=h;show if Region.wanted o (yielded ops ({ a with defers:=ds }:Act).tmps)=true then o.wp P { a with defers:=ds } w K Q∨(o.asks P { a with defers:=ds } w/\LetsOut Q) else K (({ a with defers:=ds }:Act).put o.dst undef) w;rw [show ({ a with defers:=ds }:Act).tmps=a.tmps from rfl];split
   ·rename_i hw;rw [bp hw] at h;rcases h with h|h
    ·exact .inl (XM (Fe.1 hq o (fU (by simpa using hi))) ds hK hQ h)
    ·exact absurd h.2 hl
   ·rename_i hw;rw [aR hw] at h;rw [BA];exact hK _ _ h
theorem TY {P:Program} {md:Region.Mode} {ops:Array Oper} (hq:LN ops.toList=true) (ds:List Deferred) {Q Q':Exit->Act->World->Prop} (hl:¬LetsOut Q') (hQ:∀ e a w,Q' e a w->Q e { a with defers:=ds } w):∀ {fuel:Nat} {bc:Array Bool} {a:Act} {w:World},wpAny P md ops Q' fuel bc a w->wpAny P md ops Q fuel bc { a with defers:=ds } w
 | 0,bc,a,w,h=>⟨h.1,hQ _ _ _ h.2⟩
 | fuel+1,bc,a,w,h=>⟨λhr=>hQ _ _ _ (h.1 hr),λi hi=>afu hq ds hl (λa w=>TY hq ds hl hQ) hQ (h.2 i hi)⟩
section
variable {P:Program} {tt:TypeId->Option TI} {fo:FuncId->Bool} {n:Nat}
theorem Od (ht:cp P tt) (hz:jL tt) (eZ:jx P fo) (hm:P.follows .mixedOrders=true) {id:Nat} {ops:Array Oper} (hq:LN ops.toList=true) (pl:a_) (fT:vF ops.toList pl=true) {K:AF->List AB->Prop} {F:AF} {L:List AB}
  (h:nJ P tt fo n ops.toList pl.r0 F L [] λF D=>rN P tt fo n ops.toList pl.lf pl.ph F L D K) {c:Ctx} {E:Nat->Option Nat} {a:Act} {w:World} (hc:c.wf) (dS:c.n=n) (hs:eE c E F L a w) (ds:List Deferred) {m:Nat} {Q:Exit->Act->World->Prop}
  (tp:∀ E' F' L' a' w',K F' L'->eE c E' F' L' a' w'->Q .ret { a' with defers:=ds } w'):(Code.seq (.region id ops true) .ret).wpIn Fence.wide m P Q { a with defers:=ds } w:=by
 simp only [oS,rO] at h;refine wpIn_seq (wpIn_wide.2 (wp_region_any hm ?_));refine TY hq ds (w:={ w with drawn:=w.drawn+1 }) LM ?_ (D4 ht hz eZ pl fT h hc dS hs);rintro e a' w' ⟨E',F',L',h1,rfl,h2⟩;exact wpIn_ret (tp E' F' L' a' w' h2 h1)
noncomputable def Z9 (P:Program) (tt:TypeId->Option TI) (fo:FuncId->Bool) (n k0:Nat) (K R:AF->List AB->Prop) (l:List Code):AF->List AB->Prop :=
 List.rec (motive:=λ_=>AF->List AB->Prop) K (λx _ ih F L=>dI P tt fo n k0 x (λe F L=>match e with
  | .normal=>ih F L
  | .ret=>R F L
  | _=>False) F L) l
def XN:List Code->Code->Code
 | [],y=>y
 | x :: r,y => .seq x (XN r y)
theorem F7 {k0:Nat} (ht:cp P tt) (hz:jL tt) (eZ:jx P fo) {K R:AF->List AB->Prop} {c:Ctx} (hc:c.wf) (dS:c.n=n) (TZ:c.L0.length=k0) {rest:Code} {m:Nat} {Q:Exit->Act->World->Prop}
  (Z_:∀ E' F' L' a' w',K F' L'->eE c E' F' L' a' w'->rest.wpIn Fence.wide m P Q a' w') (tp:∀ E' F' L' a' w',R F' L'->eE c E' F' L' a' w'->Q .ret a' w') :
  ∀ (l:List Code) {E:Nat->Option Nat} {F:AF} {L:List AB} {a:Act} {w:World},Z9 P tt fo n k0 K R l F L->eE c E F L a w->(XN l rest).wpIn Fence.wide m P Q a w
 | [],E,F,L,a,w,h,hs=>Z_ E F L a w h hs
 | x :: r,E,F,L,a,w,h,hs=>by
   refine wpIn_seq (wpIn_mono (wpIn_wide.2 (bH ht hz eZ h c E a w hc dS TZ hs)) ?_);rintro e a' w' ⟨E',F',L',h1,h2⟩
   cases e with
   | normal=>exact F7 ht hz eZ hc dS TZ Z_ tp r h2 h1
   | ret=>exact tp E' F' L' a' w' h2 h1
   | exit id=>exact h2.elim
   | goto l=>exact h2.elim
   | panic ch=>exact h2.elim
   | outgrown=>exact h2.elim
end
end
end Go.Ab
