/- PrimaryMakes: abstract runs. -/
import Derived.Test.YtpgnaajkeeenbaaGreatPrimaryMakesLayD
import Derived.Laws.MakeOwn
import Derived.Laws.StructEq
set_option linter.unusedVariables false
set_option linter.unusedSimpArgs false
namespace Go.Ab
noncomputable section
open Go.RowKit
def makeSliceK (tt : TypeId → Option TI) (t : TypeId) (l c : AV) (L : List AB) (K : AV → List AB → Prop) : Prop :=
  ttK tt t fun i => match sliceElem i.desc with
    | some e => ttK tt e fun ei => bif Nat.beq ei.size 1 then zeroDK ei.zero fun d => match l with
        | .d (.int _ n) => match c with
          | .d (.int _ m) => n = m ∧ 0 ≤ n ∧ n.toNat * ei.bytes ≤ 140737488355328 ∧ n ≤ 140737488355328 ∧ lpushK L (.row e 1 (List.replicate n.toNat [d]) false) 0 fun j L' => K (.arr j) L'
          | _ => False
        | _ => False
      else False
    | none => False
theorem madeCells_one (v : Value) (n : Nat) : (madeCells #[v] n).toList = List.replicate n v := by
  unfold madeCells
  apply List.ext_getElem
  · simp
  · intro k h1 h2
    simp [Nat.mod_one]
theorem makeSliceK_ok {P : Program} {tt : TypeId → Option TI} (ht : TTok P tt) {t : TypeId} {c : Ctx} (hc : c.wf) {E : Nat → Option Nat} {L : List AB} {w : World} (hs : SimH c E L w) {x y : AV} {K : AV → List AB → Prop} (h : makeSliceK tt t x y L K)
    {v u : Value} (hv : VR (rcOf c.M0 E L w) x v) (hu' : VR (rcOf c.M0 E L w) y u) :
    ∃ r w' E' av L', (Instr.makeSlice t v u).run P w = .ok r w' ∧ K av L' ∧ SimH c E' L' w' ∧ (rcOf c.M0 E L w).le (rcOf c.M0 E' L' w') ∧ VR (rcOf c.M0 E' L' w') av r := by
  unfold makeSliceK at h
  replace h := ttK_ok h
  obtain ⟨i, hi, h⟩ := h
  split at h
  rotate_left
  · exact h.elim
  rename_i e he
  replace h := ttK_ok h
  obtain ⟨ei, hei, h⟩ := h
  have hd : i.desc = .slice e := by
    revert he
    cases i.desc <;> simp [sliceElem]
  obtain ⟨hu, _⟩ := ht t i hi
  rw [hd] at hu
  obtain ⟨_, info, k1, k2, k3, k4⟩ := ht e ei hei
  cases hb0 : (Nat.beq ei.size 1) with
  | false => rw [hb0] at h; exact h.elim
  | true =>
  rw [hb0] at h
  simp only [cond_true] at h
  have hsz1 := Nat.eq_of_beq_eq_true hb0
  replace h := zeroDK_ok h
  obtain ⟨d, h, hzc, hz1, hzd⟩ := h
  split at h
  rotate_left
  · exact h.elim
  rename_i kq n
  simp only [VR, VD] at hv
  subst hv
  split at h
  rotate_left
  · exact h.elim
  rename_i kq' m
  simp only [VR, VD] at hu'
  subst hu'
  obtain ⟨rfl, hn0, hbound, hn1, h⟩ := h
  obtain ⟨n, rfl⟩ := Int.eq_ofNat_of_zero_le hn0
  simp only [Int.toNat_natCast] at hbound h
  have h3 := lpushK_ok h
  rw [Nat.zero_add] at h3
  have hby : (info.bytes : Int) * (n : Int) ≤ 281474976710656 := by
    have h : ((info.bytes * n : Nat) : Int) ≤ 281474976710656 := by rw [k4, Nat.mul_comm]; omega
    rwa [Int.natCast_mul] at h
  have hr := run_make (P := P) w t e info ei.zero hu k1 k2 kq kq' (n : Int) (n : Int) hn0 (Int.le_refl _) hby (by omega)
  simp only [Int.toNat_natCast] at hr
  rw [hzc, k3, hsz1, Nat.mul_one] at hr
  have hml : (madeCells #[ei.zero] n).size = n * 1 := by rw [← Array.length_toList, madeCells_one]; simp
  obtain ⟨hs', hle⟩ := hs.newRow hc (Keeps.alloc w (.cells (madeCells #[ei.zero] n) e)) (e := e) (cap := n) (xs := List.replicate n [d]) false (by omega) (by intro cs hcs; rw [(List.mem_replicate.1 hcs).2]; rfl) (heap_alloc_new w _) hml (by simp) (by unfold maxLen; omega) (by
    rw [madeCells_one, List.length_replicate, Nat.mul_one, List.take_of_length_le (by simp)]
    exact VDs_replicate hz1 (hzd _) n)
  refine ⟨_, _, _, _, _, hr, h3, hs', hle, ?_⟩
  have := rc_arr_new (M0 := c.M0) (E := E) (L := L) (e := e) (n := 1) (xs := List.replicate n [d]) (sh := false) (heap_alloc_new w (.cells (madeCells #[ei.zero] n) e)) hml
  rwa [List.length_replicate] at this
end
end Go.Ab
namespace Go.Ab
noncomputable section
open Go.RowKit
def shpA : AV → Bool
  | .d (.int _ _) => true
  | _ => false
def shpL (xs : List AV) : List Bool := List.rec (motive := fun _ => List Bool) [] (fun x _ ih => shpA x :: ih) xs
def fldB (P : Program) (b : Bool) (t : TypeId) : Bool :=
  match P.underlying t with
  | some (.int _) => b
  | some .string => !b
  | _ => false
def flatB (P : Program) : List Field → Nat → List Bool → Bool
  | [], _, [] => true
  | f :: r, n, b :: l => decide (f.name ≠ "_") && Nat.beq f.offset n && fldB P b f.type && flatB P r (n + 1) l
  | _, _, _ => false
def eqOkB (P : Program) (t : TypeId) (l : List Bool) : Bool :=
  (match P.underlying t with | some (.struct fs) => flatB P fs.toList 0 l | _ => false) && !(P.eqGuardType P.depth t) && !(P.stoodInHeld t)
def eqcK (x y : AV) (K : Bool → Prop) : Prop :=
  match x, y with
  | .d (.int k a), .d (.int k' b) => bif keq k k' then K (a == b) else False
  | .d (.str a), .d (.str b) => K (a.toList == b.toList)
  | _, _ => False
def eqsK (xs ys : List AV) (K : Bool → Prop) : Prop :=
  List.rec (motive := fun _ => List AV → (Bool → Prop) → Prop) (fun ys K => match ys with | [] => K true | _ => False)
    (fun x _ ih ys K => match ys with | [] => False | y :: r => eqcK x y fun b => ih r fun c => K (b && c)) xs ys K
def isAggA (x : AV) : Bool :=
  match x with
  | .agg _ => true
  | _ => false
def aggK (P : Program) (op : BinOp) (t : TypeId) (x y : AV) (K : AV → Prop) : Prop :=
  match x, y with
  | .agg xs, .agg ys =>
    match op with
    | .eql => eqOkB P t (shpL xs) = true ∧ eqsK xs ys fun b => K (.d (.bool b))
    | .neq => eqOkB P t (shpL xs) = true ∧ eqsK xs ys fun b => K (.d (.bool (!b)))
    | _ => False
  | _, _ => False
theorem eqcK_ok {P : Program} {w : World} {R : RC} {x y : AV} {K : Bool → Prop} (h : eqcK x y K) {u v : Value} (hu : VR R x u) (hv : VR R y v) {t : TypeId} (hf : fldB P (shpA x) t = true) (d : Nat) :
    ∃ b, (Op.equalIn (d + 1) t u v).run P w = .ok b w ∧ K b := by
  unfold eqcK at h
  split at h
  · rename_i k a k' b
    simp only [VR, VD] at hu hv
    subst hu; subst hv
    cases hk : keq k k' with
    | false => rw [hk] at h; exact h.elim
    | true =>
      rw [hk] at h
      have := keq_eq hk
      subst this
      unfold fldB at hf
      split at hf
      · rename_i k2 hu2
        exact ⟨_, run_equalIn_int w d t k k2 a b hu2, h⟩
      · simp [shpA] at hf
      · cases hf
  · rename_i a b
    simp only [VR, VD] at hu hv
    subst hu; subst hv
    unfold fldB at hf
    split at hf
    · simp [shpA] at hf
    · rename_i hu2
      exact ⟨_, run_equalIn_string w d t a b hu2, h⟩
    · cases hf
  · exact h.elim
theorem run_part_flat {P : Program} {w : World} {e : TypeId} {b : Bool} (he : fldB P b e = true) {xs : Array Value} {off : Nat} {v : Value} (hx : xs[off]? = some v) : (part e xs off).run P w = .ok v w := by
  unfold fldB at he
  split at he
  · rename_i hu
    simp [part, isAgg, run_underlying hu, hx]
  · rename_i hu
    simp [part, isAgg, run_underlying hu, hx]
  · cases he
theorem drop_cons_at {α : Type} {l r : List α} {n : Nat} {u : α} (h : l.drop n = u :: r) : l[n]? = some u ∧ l.drop (n + 1) = r := by
  have h1 : l[n]? = some u := by
    have := congrArg (fun x => x[0]?) h
    simpa using this
  refine ⟨h1, ?_⟩
  have := congrArg (List.drop 1) h
  simpa [List.drop_drop, Nat.add_comm] using this
theorem eqFields_ok {P : Program} {w : World} {R : RC} {U V : Array Value} (d : Nat) : ∀ {fs : List Field} {n : Nat} {xs ys : List AV} {K : Bool → Prop}, flatB P fs n (shpL xs) = true → VRs R xs (U.toList.drop n) → VRs R ys (V.toList.drop n) → eqsK xs ys K →
    ∃ b, (Op.eqFields (d + 1) U V fs).run P w = .ok b w ∧ K b
  | [], n, [], ys, K, hf, hu, hv, h => by
    cases ys with
    | nil => exact ⟨true, rfl, h⟩
    | cons y r => exact (show False from h).elim
  | [], n, x :: xs, ys, K, hf, hu, hv, h => by cases hf
  | f :: r, n, [], ys, K, hf, hu, hv, h => by cases hf
  | f :: r, n, x :: xs, [], K, hf, hu, hv, h => (show False from h).elim
  | f :: r, n, x :: xs, y :: ys, K, hf, hu, hv, h => by
    replace hf : (decide (f.name ≠ "_") && Nat.beq f.offset n && fldB P (shpA x) f.type && flatB P r (n + 1) (shpL xs)) = true := hf
    simp only [Bool.and_eq_true, decide_eq_true_iff] at hf
    obtain ⟨⟨⟨f1, f2⟩, f3⟩, f4⟩ := hf
    have f2 := Nat.eq_of_beq_eq_true f2
    simp only [VRs] at hu hv
    obtain ⟨u, us', eu, _, hu1, hu2⟩ := hu
    obtain ⟨v, vs', ev, _, hv1, hv2⟩ := hv
    obtain ⟨a1, a2⟩ := drop_cons_at eu
    obtain ⟨b1, b2⟩ := drop_cons_at ev
    replace h : eqcK x y fun b => eqsK xs ys fun c => K (b && c) := h
    obtain ⟨b, hb, hk⟩ := eqcK_ok (P := P) (w := w) h hu1 hv1 f3 d
    obtain ⟨c, hc, hkc⟩ := eqFields_ok (P := P) (w := w) (R := R) (U := U) (V := V) d f4 (by rw [a2]; exact hu2) (by rw [b2]; exact hv2) hk
    have p1 : (part f.type U f.offset).run P w = .ok u w := run_part_flat f3 (by rw [f2, ← Array.getElem?_toList]; exact a1)
    have p2 : (part f.type V f.offset).run P w = .ok v w := run_part_flat f3 (by rw [f2, ← Array.getElem?_toList]; exact b1)
    cases b with
    | true =>
      refine ⟨c, ?_, by simpa using hkc⟩
      simp only [Op.eqFields, if_pos f1, Sem.run_bind, p1, p2, Result.andThen_ok, hb, Bool.not_true, Bool.false_eq_true, if_false]
      exact hc
    | false =>
      refine ⟨false, ?_, by simpa using hkc⟩
      simp only [Op.eqFields, if_pos f1, Sem.run_bind, p1, p2, Result.andThen_ok, hb, Bool.not_false, if_true]
      rfl
theorem aggK_ok {P : Program} {w : World} {R : RC} {op : BinOp} {t : TypeId} {x y : AV} {K : AV → Prop} (h : aggK P op t x y K) {u v : Value} (hu : VR R x u) (hv : VR R y v) (xo yo : Operand) :
    ∃ r av, (eqGuard op t xo yo u v).run P w = .ok () w ∧ (binOp op t u v).run P w = .ok r w ∧ K av ∧ ∀ R, VR R av r := by
  unfold aggK at h
  split at h
  · rename_i xs ys
    simp only [VR] at hu hv
    obtain ⟨us, rfl, hu⟩ := hu
    obtain ⟨vs, rfl, hv⟩ := hv
    have key : ∀ K', eqOkB P t (shpL xs) = true → eqsK xs ys K' → ∃ b, (∀ op, (eqGuard op t xo yo (.agg us) (.agg vs)).run P w = .ok () w) ∧ (Op.equalIn 10000 t (.agg us) (.agg vs)).run P w = .ok b w ∧ K' b := by
      intro K' h1 h2
      unfold eqOkB at h1
      simp only [Bool.and_eq_true, Bool.not_eq_true'] at h1
      obtain ⟨⟨h1, h3⟩, h4⟩ := h1
      split at h1
      · rename_i fs hfs
        have hfo : P.fieldsOf t = fs := by rw [Program.fieldsOf, hfs]
        obtain ⟨b, hb, hk⟩ := eqFields_ok (P := P) (w := w) (R := R) (U := us) (V := vs) 9998 h1 (by simpa using hu) (by simpa using hv) h2
        refine ⟨b, fun op => run_eqGuard_agg w op t xo yo us vs h3, ?_, hk⟩
        rw [show (10000 : Nat) = 9999 + 1 from rfl, run_equalIn_agg w 9999 t us vs (by rw [hfo]; exact hfs) h4, hfo]
        exact hb
      · cases h1
    split at h
    · obtain ⟨b, g1, g2, g3⟩ := key _ h.1 h.2
      exact ⟨.bool b, _, g1 _, by rw [run_eql_struct, g2]; rfl, g3, fun R => by simp [VR, VD]⟩
    · obtain ⟨b, g1, g2, g3⟩ := key _ h.1 h.2
      exact ⟨.bool (!b), _, g1 _, by rw [run_neq_struct, g2]; rfl, g3, fun R => by simp [VR, VD]⟩
    · exact h.elim
  · exact h.elim
end
end Go.Ab
