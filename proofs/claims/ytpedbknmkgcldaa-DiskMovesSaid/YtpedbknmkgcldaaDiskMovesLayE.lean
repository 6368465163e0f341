/- Part of the proof of DiskMoves: what an abstract run of the code shows of its runs. -/
import Derived.Test.YtpedbknmkgcldaaDiskMovesLayD

set_option linter.unusedVariables false
set_option linter.unusedSimpArgs false
namespace Go.Ab
noncomputable section
open Go.RowKit

/-! ## tables of a program's types and functions -/
noncomputable def tget (l : List (Nat × TI)) (s : Nat) : Option TI := List.rec (motive := fun _ => Option TI) none (fun p _ ih => bif Nat.beq p.1 s then some p.2 else ih) l
theorem tget_nil (s : Nat) : tget [] s = none := rfl
theorem tget_c (t : Nat) (i : TI) (r : List (Nat × TI)) (s : Nat) : tget ((t, i) :: r) s = bif Nat.beq t s then some i else tget r s := rfl

def ttAll (P : Program) : List (Nat × TI) → Prop
  | [] => True
  | (t, i) :: r => (P.underlying t = some i.desc ∧ (P.info? t).map (fun f => (f.zero, f.size, f.bytes)) = some (some i.zero, i.size, i.bytes)) ∧ ttAll P r

theorem TTok_of {P : Program} : ∀ {l : List (Nat × TI)}, ttAll P l → TTok P (tget l)
  | [], _, t, i, h => by cases h
  | (t', i') :: r, h, t, i, hi => by
    simp only [ttAll] at h
    simp only [tget_nil, tget_c] at hi
    cases hb : Nat.beq t' t with
    | true =>
      rw [hb] at hi
      cases hi
      have := Nat.eq_of_beq_eq_true hb
      subst this
      refine ⟨h.1.1, ?_⟩
      cases hp : P.info? t' with
      | none => rw [hp] at h; cases h.1.2
      | some f =>
        rw [hp] at h
        have h2 := h.1.2
        simp only [Option.map_some, Option.some.injEq, Prod.mk.injEq] at h2
        exact ⟨f, rfl, h2.1, h2.2.1, h2.2.2⟩
    | false =>
      rw [hb] at hi
      exact TTok_of h.2 t i hi

def zoAll : List (Nat × TI) → Bool
  | [] => true
  | (_, i) :: r => Nat.beq i.zero.cells.size i.size && zoAll r
theorem ZOok_of : ∀ {l : List (Nat × TI)}, zoAll l = true → ZOok (tget l)
  | [], _, t, i, h => by cases h
  | (t', i') :: r, h, t, i, hi => by
    simp only [zoAll, Bool.and_eq_true] at h
    simp only [tget_nil, tget_c] at hi
    cases hb : Nat.beq t' t with
    | true => rw [hb] at hi; cases hi; exact Nat.eq_of_beq_eq_true h.1
    | false => rw [hb] at hi; exact ZOok_of h.2 t i hi

def foAll (P : Program) : List Nat → Bool
  | [] => true
  | g :: r => (match P.funcs[g]? with | some fn => !(fn.name == "runtime.NumGoroutine") && !fn.body.isNone | none => false) && foAll P r
theorem FOok_of {P : Program} : ∀ {l : List Nat}, foAll P l = true → FOok P (fun g => memB g l)
  | [], _, f, h => by cases h
  | g :: r, h, f, hf => by
    simp only [foAll, Bool.and_eq_true] at h
    simp only [memB_nil, memB_cons] at hf
    cases hb : Nat.beq g f with
    | false => rw [hb] at hf; exact FOok_of h.2 f (by simpa using hf)
    | true =>
      have := Nat.eq_of_beq_eq_true hb
      subst this
      have h1 := h.1
      cases hp : P.funcs[g]? with
      | none => rw [hp] at h1; cases h1
      | some fn =>
        rw [hp] at h1
        simp only [Bool.and_eq_true, Bool.not_eq_true'] at h1
        exact ⟨fn, rfl, h1.1, h1.2⟩

theorem AW_intro {P : Program} {tt : TypeId → Option TI} {fo : FuncId → Bool} {n k0 : Nat} (ht : TTok P tt) (hz : ZOok tt) (hfo : FOok P fo) {code : Code} {Q : Exit → AF → List AB → Prop} {F : AF} {L : List AB} (h : acodeK P tt fo n k0 code Q F L) : AW P n k0 code Q F L := acodeK_ok ht hz hfo code h

/-- a place where a state is taken -/
theorem aw_at {P : Program} {n k0 : Nat} {σ : Type} (st : σ → AF × List AB) (inv : σ → Prop) (live : List Nat) {x : Code} {Q : Exit → AF → List AB → Prop} {F : AF} {L : List AB}
    (h : normK k0 live F L fun F' L' => ∃ s, F' = (st s).1 ∧ L' = (st s).2 ∧ inv s) (body : ∀ s, inv s → AW P n k0 x Q (st s).1 (st s).2) : AW P n k0 x Q F L := by
  intro c E a w hc hcn hk hs
  obtain ⟨E0, F0, L0, ⟨s0, rfl, rfl, hi0⟩, hs0⟩ := normK_ok h hk hs
  exact body s0 hi0 c E0 a w hc hcn hk hs0


/-- a state is one of these -/
def Into (n k0 : Nat) {σ : Type} (st : σ → AF × List AB) (good : σ → Prop) (F : AF) (L : List AB) : Prop :=
  ∀ (c : Ctx) (E : Nat → Option Nat) (a : Act) (w : World), c.wf → c.n = n → c.L0.length = k0 → Sim c E F L a w → ∃ s E', good s ∧ Sim c E' (st s).1 (st s).2 a w
theorem into_of {n k0 : Nat} {σ : Type} {st : σ → AF × List AB} {good : σ → Prop} (live : List Nat) {F : AF} {L : List AB} (h : normK k0 live F L fun F' L' => ∃ s, F' = (st s).1 ∧ L' = (st s).2 ∧ good s) : Into n k0 st good F L := by
  intro c E a w hc hcn hk hs
  obtain ⟨E0, F0, L0, ⟨s0, rfl, rfl, hi0⟩, hs0⟩ := normK_ok h hk hs
  exact ⟨s0, E0, hi0, hs0⟩
theorem Into.mono {n k0 : Nat} {σ : Type} {st : σ → AF × List AB} {good good' : σ → Prop} (hg : ∀ s, good s → good' s) {F : AF} {L : List AB} (h : Into n k0 st good F L) : Into n k0 st good' F L :=
  fun c E a w h1 h2 h3 h4 => by
    obtain ⟨s, E', k1, k2⟩ := h c E a w h1 h2 h3 h4
    exact ⟨s, E', hg s k1, k2⟩

/-- what a scope's part comes to: labels inside are taken up again -/
def scopeQ (n k0 : Nat) {σ : Type} (st : σ → AF × List AB) (inv : Nat → σ → Prop) (x : Code) (Q : Exit → AF → List AB → Prop) (e : Exit) (F' : AF) (L' : List AB) : Prop :=
  match e with
  | .normal => Q .normal F' L'
  | .exit id => Q (.exit id) F' L'
  | .goto l => match findLabel x l with
    | some _ => Into n k0 st (inv l) F' L'
    | none => Q (.goto l) F' L'
  | .ret => Q .ret F' L'
  | _ => False
theorem scopeQ_mono {n k0 : Nat} {σ : Type} {st : σ → AF × List AB} {inv inv' : Nat → σ → Prop} (hi : ∀ l s, inv l s → inv' l s) {x : Code} {Q : Exit → AF → List AB → Prop} {e : Exit} {F : AF} {L : List AB} (h : scopeQ n k0 st inv x Q e F L) : scopeQ n k0 st inv' x Q e F L := by
  unfold scopeQ at h ⊢
  cases e with
  | goto l =>
    simp only at h ⊢
    split
    · rename_i y hy; rw [hy] at h; exact h.mono (hi l)
    · rename_i hy; rw [hy] at h; exact h
  | _ => exact h

/-- A SCOPE WITH LABELS. inv l s: what is the matter where label l is come to. -/
theorem aw_scope' {P : Program} {tt : TypeId → Option TI} {fo : FuncId → Bool} {n k0 : Nat} (ht : TTok P tt) (hz : ZOok tt) (hfo : FOok P fo) {σ : Type} (st : σ → AF × List AB) (inv : Nat → σ → Prop) (mu : Nat → σ → Nat) {x : Code} {Q : Exit → AF → List AB → Prop} {F : AF} {L : List AB}
    (pass : ∀ l rest, findLabel x l = some rest → ∀ s, inv l s → acodeK P tt fo n k0 rest (scopeQ n k0 st (fun l' s' => inv l' s' ∧ mu l' s' < mu l s) x Q) (st s).1 (st s).2)
    (start : (∀ l rest, findLabel x l = some (.seq .skip rest) → ∀ s, inv l s → AW P n k0 rest (scopeQ n k0 st inv x Q) (st s).1 (st s).2) → acodeK P tt fo n k0 x (scopeQ n k0 st inv x Q) F L) : AW P n k0 (.scope x) Q F L := by
  have start := start fun l rest hf s hi => (AW_intro (code := rest) ht hz hfo (pass l (.seq .skip rest) hf s hi)).mono fun e F L h => scopeQ_mono (fun _ _ h => h.1) h
  intro c E a w hc hcn hk hs b k cs
  have hg : ∀ l rest, findLabel x l = some rest → gotoIn l (.inScope x :: k) = some (.code rest :: .inScope x :: k) := fun l rest hf => by simp [gotoIn, hf]
  have hg0 : ∀ l, findLabel x l = none → gotoIn l (.inScope x :: k) = gotoIn l k := fun l hf => by simp [gotoIn, hf]
  have key : ∀ m l rest, findLabel x l = some rest → ∀ s, mu l s = m → inv l s → ∀ E a w, Sim c E (st s).1 (st s).2 a w →
      ∃ e a' w', (∃ E' F' L', Sim c E' F' L' a' w' ∧ Q e F' L') ∧ Arrives P (lone (b.at a (.code rest :: .inScope x :: k)) cs w) b k cs e a' w' := by
    intro m
    induction m using Nat.strongRecOn with
    | _ m ih =>
      intro l rest hf s hm hi E a w hs
      obtain ⟨e, a₁, w₁, hq, harr⟩ := acodeK_ok ht hz hfo rest (pass l rest hf s hi) c E a w hc hcn hk hs b (.inScope x :: k) cs
      obtain ⟨E', F', L', hs', hq⟩ := hq
      cases e with
      | normal => exact ⟨.normal, a₁, w₁, ⟨E', F', L', hs', hq⟩, Steps.trans harr (.one step_inScope)⟩
      | exit id => exact ⟨.exit id, a₁, w₁, ⟨E', F', L', hs', hq⟩, fun k' hk' => harr k' (by simp [exitTo, hk'])⟩
      | goto l' =>
        simp only [scopeQ] at hq
        split at hq
        · rename_i rest' hf'
          obtain ⟨s', E2, ⟨hi', hlt⟩, hs2⟩ := hq c E' a₁ w₁ hc hcn hk hs'
          obtain ⟨e₂, a₂, w₂, hq₂, harr₂⟩ := ih (mu l' s') (hm ▸ hlt) l' rest' hf' s' rfl hi' E2 a₁ w₁ hs2
          exact ⟨e₂, a₂, w₂, hq₂, .of_steps (harr _ (hg l' rest' hf')) harr₂⟩
        · rename_i hf'
          exact ⟨.goto l', a₁, w₁, ⟨E', F', L', hs', hq⟩, fun k' hk' => harr k' (by rw [hg0 l' hf']; exact hk')⟩
      | ret => exact ⟨_, a₁, w₁, ⟨E', F', L', hs', hq⟩, harr⟩
      | panic ch => exact hq.elim
      | outgrown => exact hq.elim
  obtain ⟨e, a₁, w₁, hq, harr⟩ := acodeK_ok ht hz hfo x start c E a w hc hcn hk hs b (.inScope x :: k) cs
  obtain ⟨E', F', L', hs', hq⟩ := hq
  cases e with
  | normal => exact ⟨.normal, a₁, w₁, ⟨E', F', L', hs', hq⟩, .head step_scope (Steps.trans harr (.one step_inScope))⟩
  | exit id => exact ⟨.exit id, a₁, w₁, ⟨E', F', L', hs', hq⟩, fun k' hk' => .head step_scope (harr k' (by simp [exitTo, hk']))⟩
  | goto l' =>
    simp only [scopeQ] at hq
    split at hq
    · rename_i rest' hf'
      obtain ⟨s', E2, hi', hs2⟩ := hq c E' a₁ w₁ hc hcn hk hs'
      obtain ⟨e₂, a₂, w₂, hq₂, harr₂⟩ := key _ l' rest' hf' s' rfl hi' E2 a₁ w₁ hs2
      exact ⟨e₂, a₂, w₂, hq₂, .of_steps (.head step_scope (harr _ (hg l' rest' hf'))) harr₂⟩
    · rename_i hf'
      exact ⟨.goto l', a₁, w₁, ⟨E', F', L', hs', hq⟩, fun k' hk' => .head step_scope (harr k' (by rw [hg0 l' hf']; exact hk'))⟩
  | ret => exact ⟨_, a₁, w₁, ⟨E', F', L', hs', hq⟩, .of_steps (.one step_scope) harr⟩
  | panic ch => exact hq.elim
  | outgrown => exact hq.elim

end
end Go.Ab
