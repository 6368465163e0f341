/- ImageGoes: abstract runs. -/
import Derived.Test.YtmmngmnmghpfaaaGreatImageGoesLyab
set_option linter.unusedVariables false
set_option linter.unusedSimpArgs false
namespace Go.Ab
open Go.RowKit
section
variable {P : Program} {tt : TypeId → Option TI} {fo : FuncId → Bool} {n k0 : Nat}
theorem wpList_aop (ht : TTok P tt) (hz : ZOok tt) (hfo : FOok P fo) {c : Ctx} (hc : c.wf) {o : Oper} (hg : o.guard = none) (hdn : ∀ x, o.dst = some x → x < c.n) {E : Nat → Option Nat} {F : AF} {L : List AB} {a : Act} {w : World} {K : AV → List AB → Prop}
    (h : aopK P tt fo o F L K) (hs : Sim c E F L a w) {ops : Array Oper} {r : List Oper} {Q : Exit → Act → World → Prop}
    (hk : ∀ av L' E' a' w', K av L' → Sim c E' (fput F o.dst av) L' a' w' → wpList P ops Q r a' w') : wpList P ops Q (o :: r) a w :=
  wpList_plain hg fun _ hK' => opRes_wp hdn (aopK_ok ht hz hfo hc h hs) fun av L' E' a' w' h1 h2 => hK' _ _ (hk av L' E' a' w' h1 h2)
theorem zeroCells_flat (z : Array Value) : ∀ (q : Nat), (Builtin.zeroCells z q).toList = (List.replicate q z.toList).flatten
  | 0 => by simp [Builtin.zeroCells]
  | q + 1 => by
    rw [List.replicate_succ', List.flatten_append, ← zeroCells_flat z q]
    apply List.ext_getElem
    · simp [Builtin.zeroCells, Nat.add_mul]
    · intro j h1 h2
      have h3 : j < (q + 1) * z.size := by simpa [Builtin.zeroCells] using h1
      rw [List.getElem_append]
      by_cases hj : j < q * z.size
      · rw [dif_pos (by simpa [Builtin.zeroCells] using hj)]
        simp [Builtin.zeroCells]
      · rw [dif_neg (by simpa [Builtin.zeroCells] using hj)]
        have h4 : j - q * z.size < z.size := by rw [Nat.add_mul] at h3; omega
        have h5 : j % z.size = j - q * z.size := by
          obtain ⟨d, hd⟩ : ∃ d, j = d + q * z.size := ⟨j - q * z.size, by omega⟩
          rw [hd, Nat.add_mul_mod_self_right, Nat.add_sub_cancel, Nat.mod_eq_of_lt (by omega)]
        simp [Builtin.zeroCells, h5, h4]
theorem aw_seq {x y : Code} {Q : Exit → AF → List AB → Prop} {F : AF} {L : List AB} (h : AW P n k0 x (fun e F L => e = .normal ∧ AW P n k0 y Q F L) F L) : AW P n k0 (.seq x y) Q F L := by
  intro c E a w hc hcn hk hs
  refine wp_seq (wp_mono (h c E a w hc hcn hk hs) ?_)
  rintro e a' w' ⟨E', F', L', h1, rfl, h2⟩
  exact h2 c E' a' w' hc hcn hk h1
def takeSeqC : Nat → Code → List Code
  | k + 1, .seq x y => x :: takeSeqC k y
  | _, _ => []
def dropSeqC : Nat → Code → Code
  | k + 1, .seq x y => dropSeqC k y
  | _, c => c
theorem seqsC_split : ∀ (k : Nat) (c : Code), c = seqs (takeSeqC k c) (dropSeqC k c)
  | 0, c => by cases c <;> rfl
  | k + 1, c => by
    cases c with
    | seq x y => exact congrArg (Code.seq x) (seqsC_split k y)
    | _ => rfl
theorem acalls_cut (ht : TTok P tt) (hz : ZOok tt) (hfo : FOok P fo) (m : Nat) {f : FuncId} {fn : Func} {code : Code} (hf : P.funcs[f]? = some fn) (hb : fn.body = some code) (hn : fn.ntmps = n) {rs : List ResultVar} (hr : fn.results.toList = rs)
    (ex : Bool) {avs : List AV} {Lin : List AB} {post : AV → List AB → Prop} (hlen : Nat.ble avs.length n = true)
    (h : seqsR P tt fo n Lin.length (fun F L => AW P n Lin.length (dropSeqC m code) (fun e F L => (e = .ret ∨ e = .normal) ∧ retK tt ex Lin.length rs post .ret F L) F L) (fun F L => retK tt ex Lin.length rs post .ret F L) (takeSeqC m code) (argF avs 0) Lin) : ACalls P f avs Lin post := by
  refine acalls_marks ht hf hb hn hr ex hlen ?_
  intro c a hc hcn hck hs
  rw [seqsC_split m code]
  refine seqs_ok ht hz hfo hc hcn hck ?_ (fun E' F' L' a' w' hr hs' => ⟨.inl rfl, E', F', L', hr, .inl hs'⟩) _ h hs
  intro E' F' L' a' w' hK hs'
  refine wpIn_mono (wpIn_wide.2 (hK c E' a' w' hc hcn hck hs')) ?_
  rintro e a2 w2 ⟨E2, F2, L2, h1, h2, h3⟩
  exact ⟨h2, E2, F2, L2, h3, .inl h1⟩
end
end Go.Ab
