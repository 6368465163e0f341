/- PrimaryTrims: for every argument the law returns true, and its argument reads behind the call as it read before. No condition of ours. -/
import Derived.Test.YtolkmjfkkkiboaaGreatPrimaryTrimsCodR
import Derived.Test.YtolkmjfkkkiboaaGreatRows
set_option linter.unusedVariables false
set_option linter.unusedSimpArgs false
namespace Go.Proofs.YtolkmjfkkkiboaaGreat
open Go.Ab Go.RowKit Go.MapKept
attribute [local irreducible] ACalls AW ADraw Into fltB fnear
set_option maxRecDepth 100000
def onSt9 (s : Script) (i : Nat) : AF × List AB := ([(1, .d (.int .i64 9)), (2, .ptr 0 0), (5, .d (.int .i64 i))], [.cells (s.cs.map AV.d)])
def Act.trim (a : Act) : Act := { a with doo := 9 }
set_option maxHeartbeats 4000000 in
open Classical in
theorem only9_ok (s : Script) (hs : s.okk) : ACalls Tryz.prog 12 [s.av, .d (.int .i64 9)] [] (fun av L => av = .d (.bool true) ∧ L = []) := by
  have hh := heavyS_full s hs.oks
  have hok := hs.oks.ok
  have hal := actsD_length s.acts
  have hpok : s.p.ok := ⟨hok.mine, by rw [hs.gh.2]; exact Nat.zero_le _, hok.acks, hok.votes, hok.dag, hok.late⟩
  (refine acalls_go ttOk zOk foOk Tryz.func12 rfl Tryz.ntmps12 rfl false rfl ?_); (conv => whnf)
  refine rdz ?_; repeat' ((with_reducible apply tw) <;> intro _)
  refine hh.mono ?_
  rintro _ _ ⟨⟨b, rfl, hb⟩, rfl⟩
  cases b with
  | true =>
    conv => whnf
    refine rdz ?_; repeat' ((with_reducible apply tw) <;> intro _)
    exact ⟨rfl, rfl⟩
  | false =>
    have hlt := hb rfl
    have e1 := hlt.certs
    have e2 := hlt.late
    have e3 := hlt.votes
    have e4 := hlt.acks
    have e5 := hlt.mine
    have e6 := hlt.acts
    have hpt : s.p.tiny := ⟨⟨by unfold tiny; omega, by unfold tiny; omega, by rw [hs.gh.2]; exact Nat.zero_le _⟩, by omega, by omega, ⟨by unfold tiny; omega, fun c hc => (e1.2 c hc).all.2⟩, ⟨by unfold tiny; omega, fun c hc => (e2.2 c hc).all.2⟩⟩
    have hcf : ∀ c : Cert, c.light → c.fitS := fun c h => ⟨by have := h.1; omega, by have := h.2.1; omega, by have := h.2.2; omega⟩
    have hpm : s.p.mine.fitS := ⟨by omega, by omega, by rw [hs.gh.2]; exact Nat.zero_le _⟩
    have hpf : s.p.fitS := ⟨by omega, by omega, by omega, by omega, ⟨by omega, fun c hc => hcf c (e1.2 c hc)⟩, ⟨by omega, fun c hc => hcf c (e2.2 c hc)⟩⟩
    conv => whnf
    refine rdz ?_; repeat' ((with_reducible apply tw) <;> intro _)
    refine loop_go ttOk zOk foOk (σ := Nat) (onSt9 s) (fun i => i ≤ s.acts.length) (fun i => s.acts.length - i) [1, 2, 5] ?_ ?_
    · conv => whnf
      exact ⟨0, rfl, rfl, Nat.zero_le _⟩
    · intro i hi
      conv => whnf
      refine rdz ?_; repeat' ((with_reducible apply tw) <;> intro _)
      · rename_i k1 k2
        replace k1 : (i : Int) < ((actsD s.acts).length : Int) := k1
        refine Exists.elim (⟨_, List.getElem?_eq_getElem (by omega)⟩ : ∃ a, s.acts[i]? = some a) fun a ha => ?_
        have ham := List.mem_of_getElem? ha
        have hst := step9_ok s.p hpok hpt hpf (by omega) a.trim rfl (hs.ints a ham).1
        refine ⟨by omega, a.cs, by rw [Int.toNat_natCast, actsD, List.getElem?_map, ha]; rfl, ?_⟩
        conv => whnf
        refine rdz ?_; repeat' ((with_reducible apply tw) <;> intro _)
        refine hst.mono ?_
        rintro _ _ ⟨⟨q, rfl⟩, rfl⟩
        conv => whnf
        refine rdz ?_; repeat' ((with_reducible apply tw) <;> intro _)
        exact ⟨i + 1, rfl, rfl, (show i + 1 ≤ s.acts.length by omega), (show s.acts.length - (i + 1) < s.acts.length - i by omega)⟩
      all_goals
        refine wakes_ok.mono ?_
        rintro _ _ ⟨rfl, rfl⟩
        conv => whnf
        refine rdz ?_; repeat' ((with_reducible apply tw) <;> intro _)
        exact ⟨rfl, rfl⟩
theorem primaryTrims_ok (s : Script) (hs : s.okk) : ACalls Tryz.prog 6 [s.av] [] (fun av L => av = .d (.bool true) ∧ L = []) := by
  have h := only9_ok s hs
  (refine acalls_go ttOk zOk foOk Tryz.func6 rfl Tryz.ntmps6 rfl false rfl ?_); (conv => whnf)
  refine rdz ?_; repeat' ((with_reducible apply tw) <;> intro _)
  (refine (h).mono ?_; rintro _ _ ⟨rfl, rfl⟩; (conv => whnf))
  refine rdz ?_; repeat' ((with_reducible apply tw) <;> intro _)
  exact ⟨rfl, rfl⟩
end Go.Proofs.YtolkmjfkkkiboaaGreat
/- PrimaryTrims: for every argument the law returns true, and its argument reads behind the call as it read before. No condition of ours. -/
namespace Go.Proofs.YtolkmjfkkkiboaaGreat
open Go.Ab Go.RowKit Go.ChangeShapes Go.WideShapes Go.ChangeAt
theorem own : ownKnob Tryz.prog.godebug = none := by kernel_rfl
theorem laidOut : laidOutB Tryz.prog = true := by kernel_rfl
set_option maxRecDepth 100000 in
theorem primaryTrims_lifted (os : Os) (started : os.Started) (H : Type) (enc : TypeId × Value → H) :
    ReturnsInHanded {} Tryz.checked os 6 .any (Rows.primaryTrimsSpec.pre6 enc Tryz.prog Tryz.f6 Rows.primaryTrimsRow.domain false) (Rows.primaryTrimsSpec.post enc Tryz.prog Tryz.f6 false true false false) := by
  refine returnsInHanded_of_change_sized (C := Tryz.checked) own started (by kernel_rfl) Tryz.func6
    (ChangeSpec.witness6 (enc := enc) (C := Tryz.checked) false ⟨#[], #[.agg #[.int .i64 0, .int .i64 0, .int .i64 0, .int .i64 0, .int .i64 0, .int .i64 0, .int .i64 0, .slice none 0 0, .slice none 0 0, .int .i64 0, .slice none 0 0, .slice none 0 0, .int .i64 0, .int .i64 0, .slice none 0 0, .slice none 0 0, .slice none 0 0]], []⟩ 8 (by kernel_rfl) (by kernel_rfl) (by kernel_rfl) (by kernel_rfl)) ?_
  intro W base args ds gs before hval hW _ hsz _
  exact law_contract ttOk (f := Tryz.f6) (tb := 4) (t := 33) rfl rfl Tryz.underlying4 rfl (fun _ _ => rfl) laidOut (by kernel_rfl) (of_decide_eq_true (by kernel_rfl)) 8 (by kernel_rfl) argS
    (fun W base v ds h1 h2 => argS_ok Tryz.underlying33 h1 h2)
    (fun ds hd => by
      obtain ⟨p, hp, hok⟩ := askR_of hd
      rw [hp]
      exact primaryTrims_ok p hok) hval hW hsz
theorem jf1 : Tryz.prog.inPlace 6 = Rows.primaryTrimsRow.inPlace := by kernel_rfl
theorem jf2 : Tryz.prog.unfollowed 6 = Rows.primaryTrimsRow.unfollowed := by kernel_rfl
theorem jf3 : Tryz.prog.recurses 6 = Rows.primaryTrimsRow.recurses := by kernel_rfl
theorem jf4 : Tryz.prog.varsNamed 6 = Rows.primaryTrimsRow.named := by kernel_rfl
theorem jf5 : mapsRowed Tryz.prog = true := by kernel_rfl
theorem jf : joinedFacts Tryz.prog 6 Tryz.f6 Rows.primaryTrimsSpec Rows.primaryTrimsRow = true := by
  unfold joinedFacts
  rw [jf1, jf2, jf3, jf4, jf5, laidOut]
  kernel_rfl
theorem primaryTrims_holds : Rows.PrimaryTrimsSaid :=
  OpenClaim.holds_of_wide 6 Tryz.f6 rfl rfl rfl rfl rfl rfl rfl ⟨rfl, rfl, rfl, rfl, rfl⟩ rfl rfl rfl rfl rfl (by kernel_rfl) Tryz.func6 jf
    (of_decide_eq_true (by kernel_rfl)) (by unfold Func.isWrapper; first | (rw [if_pos (by decide +kernel)]; kernel_rfl) | (rw [if_neg (by decide +kernel)]; exact ⟨rfl, rfl⟩))
    (fun os started H enc _ => primaryTrims_lifted os started H enc)
#print axioms primaryTrims_holds
end Go.Proofs.YtolkmjfkkkiboaaGreat
