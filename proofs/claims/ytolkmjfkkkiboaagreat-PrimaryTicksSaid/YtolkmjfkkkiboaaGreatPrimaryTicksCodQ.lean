/- PrimaryTicks: for every argument the law returns true, and its argument reads behind the call as it read before. No condition of ours. -/
import Derived.Test.YtolkmjfkkkiboaaGreatPrimaryTicksCodP
import Derived.Test.YtolkmjfkkkiboaaGreatRows
set_option linter.unusedVariables false
set_option linter.unusedSimpArgs false
namespace Go.Proofs.YtolkmjfkkkiboaaGreat
open Go.Ab Go.RowKit Go.MapKept
attribute [local irreducible] ACalls AW ADraw Into fltB fnear
set_option maxRecDepth 100000
theorem beatP_ok {p : Prim} (h : p.ok) : (beatP p).ok := ⟨h.mine, h.sigs, h.acks, h.votes, h.dag, h.late⟩
theorem beatP_fit {p : Prim} (h : p.fitS) : (beatP p).fitS := ⟨h.bats, h.pars, h.acks, h.votes, h.dag, h.late⟩
set_option maxHeartbeats 8000000 in
open Classical in
theorem step8_ok (p : Prim) (hok : p.ok) (ht : p.tiny) (hf : p.fitS) (hmf : p.mine.fitS) (a : Act) (h0 : a.doo = 8) :
    ACalls Tryz.prog 19 [p.av, .agg (a.cs.map AV.d)] [] (fun av L => (∃ q : Prim, av = .tup [q.av, .d (.bool true)]) ∧ L = []) := by
  have h1 := copyPrim_ok p ht
  have h2 := rMay20_ok p hok
  have h3 := within_ok a.doo 10 (by decide) (by decide) (by rw [h0]; decide)
  have hfd : few p.dag.certs ∧ ∀ c ∈ p.dag.certs, fewL c := ⟨by have := hf.dag.1; unfold few; omega, fun c hc => fit_few (hf.dag.2 c hc)⟩
  have hfl : few p.late ∧ ∀ c ∈ p.late, fewL c := ⟨by have := hf.late.1; unfold few; omega, fun c hc => fit_few (hf.late.2 c hc)⟩
  have hv : few p.votes := by have := hf.votes; unfold few; omega
  have ha : few p.acks := by have := hf.acks; unfold few; omega
  have hmm : few p.mine.bats ∧ few p.mine.pars := ⟨by have := hf.bats; unfold few; omega, by have := hf.pars; unfold few; omega⟩
  have h6 := eqPrim_same p hok hfd hfl hv ha hmm
  have hti := tickI_ok p hok hmf hf.dag.2
  rw [show a.doo % 18446744073709551616 % 10 = 8 by rw [h0]; decide] at h3
  (refine acalls_go ttOk zOk foOk Tryz.func19 rfl Tryz.ntmps19 rfl false rfl ?_); (conv => whnf)
  refine h1.mono ?_
  rintro _ _ ⟨rfl, rfl⟩
  conv => whnf
  refine rdw ?_; repeat' ((with_reducible apply tw) <;> intro _)
  refine h2.mono ?_
  rintro _ _ ⟨rfl, rfl⟩
  by_cases k1 : May p
  · rw [decide_eq_true k1]
    have htk := tick20_ok p k1 ht
    conv => whnf
    refine rdw ?_; repeat' ((with_reducible apply tw) <;> intro _)
    (refine (h3).mono ?_; rintro _ _ ⟨rfl, rfl⟩; (conv => whnf))
    refine rdw ?_; repeat' ((with_reducible apply tw) <;> intro _)
    refine htk.mono ?_
    rintro _ _ ⟨rfl, rfl⟩
    conv => whnf
    refine rdw ?_; repeat' ((with_reducible apply tw) <;> intro _)
    refine hti.mono ?_
    rintro _ _ ⟨⟨_, rfl⟩ | ⟨k, _⟩, lo, n, rfl⟩
    · have hsP := spoilP_ok (beatP p) (beatP_fit hf) lo n true
      have hsM := spoilM_ok (beatS (beatP p)) (by have h9 := beatS_len (beatP p); rw [show (beatP p).nodes = p.nodes from rfl] at h9; have := of_decide_eq_true k1.isn; omega) (fun m hm => (beatS_nice (q := beatP p) hmf hf.dag.2 m hm).fit) lo n false
      have heP := eqPI_ok (beatP p) (beatP_ok hok) hfd hfl hv ha hmm lo n
      have heM := eqMI_ok (beatS (beatP p)) (by have h9 := beatS_len (beatP p); rw [show (beatP p).nodes = p.nodes from rfl] at h9; have := of_decide_eq_true k1.isn; unfold few; omega) (beatS_nice (q := beatP p) hmf hf.dag.2) lo n
      conv => whnf
      refine rdw ?_; repeat' ((with_reducible apply tw) <;> intro _)
      ((with_reducible refine draw_pl ttOk zOk foOk mixedOk pl19x54 ?_ ?_); (focus kernel_rfl); (conv => whnf))
      refine rdw ?_; repeat' ((with_reducible apply tw) <;> intro _)
      (refine (num20_ok 0).mono ?_; rintro _ _ ⟨rfl, rfl⟩; (conv => whnf))
      refine rdw ?_; repeat' ((with_reducible apply tw) <;> intro _)
      (refine (heP).mono ?_; rintro _ _ ⟨rfl, rfl⟩; (conv => whnf))
      refine rdw ?_; repeat' ((with_reducible apply tw) <;> intro _)
      (refine Or.inr ?_; (conv => whnf))
      (refine (heM).mono ?_; rintro _ _ ⟨rfl, rfl⟩; (conv => whnf))
      refine rdw ?_; repeat' ((with_reducible apply tw) <;> intro _)
      (refine (h6).mono ?_; rintro _ _ ⟨rfl, rfl⟩; (conv => whnf))
      refine rdw ?_; repeat' ((with_reducible apply tw) <;> intro _)
      (refine (hsP).mono ?_; rintro _ _ ⟨rfl, rfl⟩; (conv => whnf))
      refine rdw ?_; repeat' ((with_reducible apply tw) <;> intro _)
      (refine (hsM).mono ?_; rintro _ _ ⟨rfl, rfl⟩; (conv => whnf))
      refine rdw ?_; repeat' ((with_reducible apply tw) <;> intro _)
      ((with_reducible refine draw_pl ttOk zOk foOk mixedOk pl19x59 ?_ ?_); (focus kernel_rfl); (conv => whnf))
      repeat' (first | (first | ((with_reducible first | apply rd_intro | apply gd_and); (focus ((conv => whnf) <;> first | rfl | (intro K hK; (conv => whnf); first | exact hK | exact z_wrap (by omega) hK))); conv => whnf) | ((with_reducible apply z_wrap); (focus omega); conv => whnf) | ((with_reducible first | apply mt_dec | apply mt_eq | apply mt_ne | apply mt_not | apply mt_any) <;> (intro _; conv => whnf))) | ((with_reducible apply rd_intro); (focus (intro K hK; (conv => whnf); refine h6.mono ?_; rintro _ _ ⟨rfl, rfl⟩; (conv => whnf); exact hK)); (conv => whnf)) | ((with_reducible apply gd_and); (focus ((conv => whnf); intro K hK; (conv => whnf); refine h6.mono ?_; rintro _ _ ⟨rfl, rfl⟩; (conv => whnf); exact hK)); (conv => whnf)) | (refine (h6).mono ?_; rintro _ _ ⟨rfl, rfl⟩; (conv => whnf)) | fail)
      exact ⟨⟨beatP p, rfl⟩, rfl⟩
    · exact absurd k1 k
  · rw [decide_eq_false k1]
    conv => whnf
    refine rdw ?_; repeat' ((with_reducible apply tw) <;> intro _)
    (refine (h3).mono ?_; rintro _ _ ⟨rfl, rfl⟩; (conv => whnf))
    refine rdw ?_; repeat' ((with_reducible apply tw) <;> intro _)
    refine hti.mono ?_
    rintro _ _ ⟨⟨k, _⟩ | ⟨_, rfl⟩, lo, n, rfl⟩
    · exact absurd k k1
    · have hsP := spoilP_ok zP zP_fit lo n true
      have hsM := spoilM_ok [] (Nat.zero_le _) (fun _ h => by cases h) lo n false
      have hzP := eqPZ_ok lo n
      have hzM := eqMI_ok [] (Nat.zero_le _) (fun _ h => by cases h) lo n
      conv => whnf
      refine rdw ?_; repeat' ((with_reducible apply tw) <;> intro _)
      ((with_reducible refine draw_pl ttOk zOk foOk mixedOk pl19x54 ?_ ?_); (focus kernel_rfl); (conv => whnf))
      refine rdw ?_; repeat' ((with_reducible apply tw) <;> intro _)
      (refine (num20_ok 1).mono ?_; rintro _ _ ⟨rfl, rfl⟩; (conv => whnf))
      refine rdw ?_; repeat' ((with_reducible apply tw) <;> intro _)
      (refine (hzP).mono ?_; rintro _ _ ⟨rfl, rfl⟩; (conv => whnf))
      refine rdw ?_; repeat' ((with_reducible apply tw) <;> intro _)
      (refine Or.inr ?_; (conv => whnf))
      (refine (hzM).mono ?_; rintro _ _ ⟨rfl, rfl⟩; (conv => whnf))
      refine rdw ?_; repeat' ((with_reducible apply tw) <;> intro _)
      (refine (h6).mono ?_; rintro _ _ ⟨rfl, rfl⟩; (conv => whnf))
      refine rdw ?_; repeat' ((with_reducible apply tw) <;> intro _)
      (refine (hsP).mono ?_; rintro _ _ ⟨rfl, rfl⟩; (conv => whnf))
      refine rdw ?_; repeat' ((with_reducible apply tw) <;> intro _)
      (refine (hsM).mono ?_; rintro _ _ ⟨rfl, rfl⟩; (conv => whnf))
      refine rdw ?_; repeat' ((with_reducible apply tw) <;> intro _)
      ((with_reducible refine draw_pl ttOk zOk foOk mixedOk pl19x58 ?_ ?_); (focus kernel_rfl); (conv => whnf))
      repeat' (first | (first | ((with_reducible first | apply rd_intro | apply gd_and); (focus ((conv => whnf) <;> first | rfl | (intro K hK; (conv => whnf); first | exact hK | exact z_wrap (by omega) hK))); conv => whnf) | ((with_reducible apply z_wrap); (focus omega); conv => whnf) | ((with_reducible first | apply mt_dec | apply mt_eq | apply mt_ne | apply mt_not | apply mt_any) <;> (intro _; conv => whnf))) | ((with_reducible apply rd_intro); (focus (intro K hK; (conv => whnf); refine h6.mono ?_; rintro _ _ ⟨rfl, rfl⟩; (conv => whnf); exact hK)); (conv => whnf)) | ((with_reducible apply gd_and); (focus ((conv => whnf); intro K hK; (conv => whnf); refine h6.mono ?_; rintro _ _ ⟨rfl, rfl⟩; (conv => whnf); exact hK)); (conv => whnf)) | (refine (h6).mono ?_; rintro _ _ ⟨rfl, rfl⟩; (conv => whnf)) | fail)
      exact ⟨⟨p, rfl⟩, rfl⟩
def onSt8 (s : Script) (i : Nat) : AF × List AB := ([(1, .d (.int .i64 8)), (2, .ptr 0 0), (5, .d (.int .i64 i))], [.cells (s.cs.map AV.d)])
def Act.tick (a : Act) : Act := { a with doo := 8 }
set_option maxHeartbeats 4000000 in
open Classical in
theorem only8_ok (s : Script) (hs : s.okk) : ACalls Tryz.prog 12 [s.av, .d (.int .i64 8)] [] (fun av L => av = .d (.bool true) ∧ L = []) := by
  have hh := heavyS_full s hs.oks
  have hok := hs.oks.ok
  have hal := actsD_length s.acts
  have hpok : s.p.ok := ⟨hok.mine, by rw [hs.gh.2]; exact Nat.zero_le _, hok.acks, hok.votes, hok.dag, hok.late⟩
  (refine acalls_go ttOk zOk foOk Tryz.func12 rfl Tryz.ntmps12 rfl false rfl ?_); (conv => whnf)
  refine rdz ?_; repeat' ((with_reducible apply tw) <;> intro _)
  refine hh.mono ?_
  rintro _ _ ⟨⟨b, rfl, hb⟩, rfl⟩
  cases b with
  | true =>
    conv => whnf
    refine rdz ?_; repeat' ((with_reducible apply tw) <;> intro _)
    exact ⟨rfl, rfl⟩
  | false =>
    have hlt := hb rfl
    have e1 := hlt.certs
    have e2 := hlt.late
    have e3 := hlt.votes
    have e4 := hlt.acks
    have e5 := hlt.mine
    have e6 := hlt.acts
    have hpt : s.p.tiny := ⟨⟨by unfold tiny; omega, by unfold tiny; omega, by rw [hs.gh.2]; exact Nat.zero_le _⟩, by omega, by omega, ⟨by unfold tiny; omega, fun c hc => (e1.2 c hc).all.2⟩, ⟨by unfold tiny; omega, fun c hc => (e2.2 c hc).all.2⟩⟩
    have hcf : ∀ c : Cert, c.light → c.fitS := fun c h => ⟨by have := h.1; omega, by have := h.2.1; omega, by have := h.2.2; omega⟩
    have hpm : s.p.mine.fitS := ⟨by omega, by omega, by rw [hs.gh.2]; exact Nat.zero_le _⟩
    have hpf : s.p.fitS := ⟨by omega, by omega, by omega, by omega, ⟨by omega, fun c hc => hcf c (e1.2 c hc)⟩, ⟨by omega, fun c hc => hcf c (e2.2 c hc)⟩⟩
    conv => whnf
    refine rdz ?_; repeat' ((with_reducible apply tw) <;> intro _)
    refine loop_go ttOk zOk foOk (σ := Nat) (onSt8 s) (fun i => i ≤ s.acts.length) (fun i => s.acts.length - i) [1, 2, 5] ?_ ?_
    · conv => whnf
      exact ⟨0, rfl, rfl, Nat.zero_le _⟩
    · intro i hi
      conv => whnf
      refine rdz ?_; repeat' ((with_reducible apply tw) <;> intro _)
      · rename_i k1 k2
        replace k1 : (i : Int) < ((actsD s.acts).length : Int) := k1
        refine Exists.elim (⟨_, List.getElem?_eq_getElem (by omega)⟩ : ∃ a, s.acts[i]? = some a) fun a ha => ?_
        have ham := List.mem_of_getElem? ha
        have hst := step8_ok s.p hpok hpt hpf hpm a.tick rfl
        refine ⟨by omega, a.cs, by rw [Int.toNat_natCast, actsD, List.getElem?_map, ha]; rfl, ?_⟩
        conv => whnf
        refine rdz ?_; repeat' ((with_reducible apply tw) <;> intro _)
        refine hst.mono ?_
        rintro _ _ ⟨⟨q, rfl⟩, rfl⟩
        conv => whnf
        refine rdz ?_; repeat' ((with_reducible apply tw) <;> intro _)
        exact ⟨i + 1, rfl, rfl, (show i + 1 ≤ s.acts.length by omega), (show s.acts.length - (i + 1) < s.acts.length - i by omega)⟩
      all_goals
        refine wakes_ok.mono ?_
        rintro _ _ ⟨rfl, rfl⟩
        conv => whnf
        refine rdz ?_; repeat' ((with_reducible apply tw) <;> intro _)
        exact ⟨rfl, rfl⟩
theorem primaryTicks_ok (s : Script) (hs : s.okk) : ACalls Tryz.prog 5 [s.av] [] (fun av L => av = .d (.bool true) ∧ L = []) := by
  have h := only8_ok s hs
  (refine acalls_go ttOk zOk foOk Tryz.func5 rfl Tryz.ntmps5 rfl false rfl ?_); (conv => whnf)
  refine rdz ?_; repeat' ((with_reducible apply tw) <;> intro _)
  (refine (h).mono ?_; rintro _ _ ⟨rfl, rfl⟩; (conv => whnf))
  refine rdz ?_; repeat' ((with_reducible apply tw) <;> intro _)
  exact ⟨rfl, rfl⟩
end Go.Proofs.YtolkmjfkkkiboaaGreat
/- PrimaryTicks: for every argument the law returns true, and its argument reads behind the call as it read before. No condition of ours. -/
namespace Go.Proofs.YtolkmjfkkkiboaaGreat
open Go.Ab Go.RowKit Go.ChangeShapes Go.WideShapes Go.ChangeAt
theorem own : ownKnob Tryz.prog.godebug = none := by kernel_rfl
theorem laidOut : laidOutB Tryz.prog = true := by kernel_rfl
set_option maxRecDepth 100000 in
theorem primaryTicks_lifted (os : Os) (started : os.Started) (H : Type) (enc : TypeId × Value → H) :
    ReturnsInHanded {} Tryz.checked os 5 .any (Rows.primaryTicksSpec.pre6 enc Tryz.prog Tryz.f5 Rows.primaryTicksRow.domain false) (Rows.primaryTicksSpec.post enc Tryz.prog Tryz.f5 false true false false) := by
  refine returnsInHanded_of_change_sized (C := Tryz.checked) own started (by kernel_rfl) Tryz.func5
    (ChangeSpec.witness6 (enc := enc) (C := Tryz.checked) false ⟨#[], #[.agg #[.int .i64 0, .int .i64 0, .int .i64 0, .int .i64 0, .int .i64 0, .int .i64 0, .int .i64 0, .slice none 0 0, .slice none 0 0, .int .i64 0, .slice none 0 0, .slice none 0 0, .int .i64 0, .int .i64 0, .slice none 0 0, .slice none 0 0, .slice none 0 0]], []⟩ 8 (by kernel_rfl) (by kernel_rfl) (by kernel_rfl) (by kernel_rfl)) ?_
  intro W base args ds gs before hval hW _ hsz _
  exact law_contract ttOk (f := Tryz.f5) (tb := 4) (t := 33) rfl rfl Tryz.underlying4 rfl (fun _ _ => rfl) laidOut (by kernel_rfl) (of_decide_eq_true (by kernel_rfl)) 8 (by kernel_rfl) argS
    (fun W base v ds h1 h2 => argS_ok Tryz.underlying33 h1 h2)
    (fun ds hd => by
      obtain ⟨p, hp, hok⟩ := askR_of hd
      rw [hp]
      exact primaryTicks_ok p hok) hval hW hsz
theorem jf1 : Tryz.prog.inPlace 5 = Rows.primaryTicksRow.inPlace := by kernel_rfl
theorem jf2 : Tryz.prog.unfollowed 5 = Rows.primaryTicksRow.unfollowed := by kernel_rfl
theorem jf3 : Tryz.prog.recurses 5 = Rows.primaryTicksRow.recurses := by kernel_rfl
theorem jf4 : Tryz.prog.varsNamed 5 = Rows.primaryTicksRow.named := by kernel_rfl
theorem jf5 : mapsRowed Tryz.prog = true := by kernel_rfl
theorem jf : joinedFacts Tryz.prog 5 Tryz.f5 Rows.primaryTicksSpec Rows.primaryTicksRow = true := by
  unfold joinedFacts
  rw [jf1, jf2, jf3, jf4, jf5, laidOut]
  kernel_rfl
theorem primaryTicks_holds : Rows.PrimaryTicksSaid :=
  OpenClaim.holds_of_wide 5 Tryz.f5 rfl rfl rfl rfl rfl rfl rfl ⟨rfl, rfl, rfl, rfl, rfl⟩ rfl rfl rfl rfl rfl (by kernel_rfl) Tryz.func5 jf
    (of_decide_eq_true (by kernel_rfl)) (by unfold Func.isWrapper; first | (rw [if_pos (by decide +kernel)]; kernel_rfl) | (rw [if_neg (by decide +kernel)]; exact ⟨rfl, rfl⟩))
    (fun os started H enc _ => primaryTicks_lifted os started H enc)
#print axioms primaryTicks_holds
end Go.Proofs.YtolkmjfkkkiboaaGreat
