/- for every World the law PrimaryWaits returns true, and its argument reads behind the call as it read before -/
import Derived.Test.YtdlfmgcmfoehdaaGreatPrimaryWaitsCodH
import Derived.Test.YtdlfmgcmfoehdaaGreatRows

set_option linter.unusedVariables false
set_option linter.unusedSimpArgs false
namespace Go.Proofs.YtdlfmgcmfoehdaaGreat
open Go.Ab Go.RowKit Go.MapKept
attribute [local irreducible] ACalls AW ADraw Into fltB fnear
set_option maxRecDepth 100000
/-! ## a lone primary proposes -/
def plSay8 : Plan := ⟨[[], [], [], [], [], [], [], [6], [6, 7], [7, 6, 8], [8, 6, 7, 9], [], [11], [], [], [14], [14, 15], [15, 14, 16], [16, 14, 15, 17], [17, 15, 14, 16, 18], [17, 15, 14, 16, 18, 11, 12, 9, 7, 6, 8, 10, 5, 0], [0, 5, 10, 8, 6, 7, 9, 12, 11, 18, 16, 14, 15, 17, 20], [20, 17, 15, 14, 16, 18, 11, 12, 9, 7, 6, 8, 10, 5, 0, 21], [21, 0, 5, 10, 8, 6, 7, 9, 12, 11, 18, 16, 14, 15, 17, 20, 22], [23, 22, 21, 20, 17, 15, 14, 16, 18, 11, 12, 10, 9, 8, 7, 6, 5, 0, 1], [1, 0, 5, 6, 7, 8, 9, 10, 12, 11, 18, 16, 14, 15, 17, 20, 21, 22, 23, 24], [24, 23, 22, 21, 20, 17, 15, 14, 16, 18, 11, 12, 10, 9, 8, 7, 6, 5, 0, 1, 25], [25, 1, 0, 5, 6, 7, 8, 9, 10, 12, 11, 18, 16, 14, 15, 17, 20, 21, 22, 23, 24, 26], [27, 26, 25, 24, 23, 22, 21, 20, 17, 15, 14, 16, 18, 12, 11, 10, 9, 8, 7, 6, 5, 1, 0, 2], [2, 0, 1, 5, 6, 7, 8, 9, 10, 11, 12, 18, 16, 14, 15, 17, 20, 21, 22, 23, 24, 25, 26, 27, 28], [28, 27, 26, 25, 24, 23, 22, 21, 20, 17, 15, 14, 16, 18, 12, 11, 10, 9, 8, 7, 6, 5, 1, 0, 2, 29], [29, 2, 0, 1, 5, 6, 7, 8, 9, 10, 11, 12, 18, 16, 14, 15, 17, 20, 21, 22, 23, 24, 25, 26, 27, 28, 30], [31, 30, 29, 28, 27, 26, 25, 24, 23, 22, 21, 20, 17, 15, 14, 16, 18, 13, 12, 11, 10, 9, 8, 7, 6, 5, 2, 1, 0, 3], [3, 0, 1, 2, 5, 6, 7, 8, 9, 10, 11, 12, 13, 18, 16, 14, 15, 17, 20, 21, 22, 23, 24, 25, 26, 27, 28, 29, 30, 31, 32], [32, 31, 30, 29, 28, 27, 26, 25, 24, 23, 22, 21, 20, 17, 15, 14, 16, 18, 13, 12, 11, 10, 9, 8, 7, 6, 5, 2, 1, 0, 3, 33], [33, 3, 0, 1, 2, 5, 6, 7, 8, 9, 10, 11, 12, 13, 18, 16, 14, 15, 17, 20, 21, 22, 23, 24, 25, 26, 27, 28, 29, 30, 31, 32, 34], [35, 34, 33, 32, 31, 30, 29, 28, 27, 26, 25, 24, 23, 22, 21, 20, 19, 18, 17, 16, 15, 14, 13, 12, 11, 10, 9, 8, 7, 6, 5, 3, 2, 1, 0, 4], [4, 0, 1, 2, 3, 5, 6, 7, 8, 9, 10, 11, 12, 13, 14, 15, 16, 17, 18, 19, 20, 21, 22, 23, 24, 25, 26, 27, 28, 29, 30, 31, 32, 33, 34, 35, 36], [36, 35, 34, 33, 32, 31, 30, 29, 28, 27, 26, 25, 24, 23, 22, 21, 20, 19, 18, 17, 16, 15, 14, 13, 12, 11, 10, 9, 8, 7, 6, 5, 3, 2, 1, 0, 4, 37], [37, 4, 0, 1, 2, 3, 5, 6, 7, 8, 9, 10, 11, 12, 13, 14, 15, 16, 17, 18, 19, 20, 21, 22, 23, 24, 25, 26, 27, 28, 29, 30, 31, 32, 33, 34, 35, 36, 38]], [0, 1, 2, 3, 4, 5, 6, 7, 8, 9, 10, 11, 13, 14, 15, 16, 17, 18, 19], [(12, [20, 21, 22]), (23, [24, 25, 26]), (27, [28, 29, 30]), (31, [32, 33, 34]), (35, [36, 37, 38]), (39, [])]⟩
def lone2 : Prim := { lone with votes := [⟨1, 1, 5⟩], said := 1, mine := loneH, dig := 5, acks := [1] }
def loneC : Cert := ⟨1, 1, [], [], 5, [1]⟩
def lone3 : Prim := ⟨1, 1, 1, 0, 1, cz0, 0, [], [⟨1, 1, 5⟩], ⟨1, 0, [loneC]⟩, []⟩
theorem lone3_eq : certdP lone2 = lone3 := by rfl
def loneM : Msg := ⟨4, 0, 0, 5, 0, 0, [], loneH, cz0, []⟩
theorem tell_none : tellO lone2 loneM [] lone2.nodes.toNat = [] := by rfl
theorem tell_none2 : (if doneP lone2 then tellO (clearP lone2) (certMsg (certP lone2)) [] lone2.nodes.toNat else []) = [] := by rfl
theorem tiny_nil {α : Type} : tiny ([] : List α) := by show 0 ≤ _; decide
theorem tiny_one {α : Type} (x : α) : tiny [x] := by show 1 ≤ _; decide
theorem rise_nil (a b : Int) : riseB [] a b := ⟨List.Pairwise.nil, fun x h => (by cases h)⟩
theorem okH1 : okHead 1 loneH := ⟨by rfl, by decide, by decide, ⟨by decide, rise_nil 1 65536⟩, ⟨by decide, rise_nil 1 65536⟩, fun _ => rfl, fun h => absurd rfl h⟩
theorem okC1 : okCert 1 loneC := ⟨⟨by rfl, by decide, by decide, ⟨by decide, rise_nil 1 65536⟩, ⟨by decide, rise_nil 1 65536⟩, fun _ => rfl, fun h => absurd rfl h⟩, by decide, ⟨List.pairwise_singleton .., fun x h => (by have := List.mem_singleton.1 h; subst this; decide)⟩, by decide⟩
theorem tinyH1 : loneH.tiny := ⟨tiny_nil, tiny_nil, tiny_nil⟩
theorem tinyC1 : loneC.tiny := ⟨tiny_nil, tiny_nil, tiny_one 1⟩
theorem mayH1 : ACalls Tryz.prog 61 [loneH.hav, .d (.int .i64 1)] [] (fun av L => av = .d (.bool true) ∧ L = []) := by
  refine (hMay_ok loneH ⟨few_nil, few_nil, few_nil⟩ 1).mono ?_
  rintro _ _ ⟨rfl, rfl⟩
  exact ⟨by simp [okH1], rfl⟩
set_option maxHeartbeats 2000000 in
theorem say1 : ACalls Tryz.prog 62 [lone.av, loneH.hav, .d (.int .i64 5)] [] (fun av L => av = .tup [lone3.av, .d (.sl 1 []), .d (.sl 18 []), .d (.int .i64 0)] ∧ L = []) := by
  have h1 := ready_ok lone lone_fit (by decide) (by decide)
  have h2 := headP_ok lone lone_fit (by decide) (by decide) [] few_nil
  rw [lone_head] at h2
  have h3 := equal_ok [] [] few_nil
  have h4 := votePut_nil ⟨1, 1, 5⟩
  have h5 := own_ok loneH tinyH1
  have h6 := tell_ok lone2 (by decide) [] (by decide) loneM tinyH1 cz0_tiny [] few_nil
  rw [tell_none] at h6
  have h7 := certified_ok lone2 [] (by decide) (by decide) (fun _ => ⟨okC1, tinyC1, ⟨lone_bare.dag, by decide, fun c h => (by cases h)⟩, by decide, List.Pairwise.nil⟩)
  rw [tell_none2, lone3_eq] at h7
  refine acalls_go ttOk zOk foOk Tryz.func62 rfl Tryz.ntmps62 rfl false rfl ?_
  conv => whnf
  ((with_reducible refine draw_pl ttOk zOk foOk mixedOk pl62x1 ?_ ?_); (focus kernel_rfl); (conv => whnf))
  repeat' (first | ((with_reducible apply rd_intro); (focus (intro K hK; (conv => whnf); first | exact hK | (intro z hz; rw [wrapI (by omega)] at hz; subst hz; exact hK))); (conv => whnf)) | ((with_reducible apply gd_and); (focus ((conv => whnf) <;> first | rfl | (intro K hK; (conv => whnf); first | exact hK | (intro z hz; rw [wrapI (by omega)] at hz; subst hz; exact hK)))); (conv => whnf)) | ((with_reducible apply z_wrap); (focus omega); (conv => whnf)) | ((with_reducible first | apply mt_dec | apply mt_eq | apply mt_ne | apply mt_not | apply mt_any) <;> (intro _; conv => whnf)))
  refine ACalls.mono (post := fun av L => av = .d (.bool true) ∧ L = []) h1 ?_
  rintro _ _ ⟨rfl, rfl⟩
  conv => whnf
  repeat' (first | ((with_reducible apply rd_intro); (focus (intro K hK; (conv => whnf); first | exact hK | (intro z hz; rw [wrapI (by omega)] at hz; subst hz; exact hK))); (conv => whnf)) | ((with_reducible apply gd_and); (focus ((conv => whnf) <;> first | rfl | (intro K hK; (conv => whnf); first | exact hK | (intro z hz; rw [wrapI (by omega)] at hz; subst hz; exact hK)))); (conv => whnf)) | ((with_reducible apply z_wrap); (focus omega); (conv => whnf)) | ((with_reducible first | apply mt_dec | apply mt_eq | apply mt_ne | apply mt_not | apply mt_any) <;> (intro _; conv => whnf)))
  refine ACalls.mono (post := fun av L => av = loneH.hav ∧ L = []) h2 ?_
  rintro _ _ ⟨rfl, rfl⟩
  conv => whnf
  repeat' (first | ((with_reducible apply rd_intro); (focus (intro K hK; (conv => whnf); first | exact hK | (intro z hz; rw [wrapI (by omega)] at hz; subst hz; exact hK))); (conv => whnf)) | ((with_reducible apply gd_and); (focus ((conv => whnf) <;> first | rfl | (intro K hK; (conv => whnf); first | exact hK | (intro z hz; rw [wrapI (by omega)] at hz; subst hz; exact hK)))); (conv => whnf)) | ((with_reducible apply z_wrap); (focus omega); (conv => whnf)) | ((with_reducible first | apply mt_dec | apply mt_eq | apply mt_ne | apply mt_not | apply mt_any) <;> (intro _; conv => whnf)))
  refine ACalls.mono (post := fun av L => av = .d (.bool true) ∧ L = []) h3 ?_
  rintro _ _ ⟨rfl, rfl⟩
  conv => whnf
  repeat' (first | ((with_reducible apply rd_intro); (focus (intro K hK; (conv => whnf); first | exact hK | (intro z hz; rw [wrapI (by omega)] at hz; subst hz; exact hK))); (conv => whnf)) | ((with_reducible apply gd_and); (focus ((conv => whnf) <;> first | rfl | (intro K hK; (conv => whnf); first | exact hK | (intro z hz; rw [wrapI (by omega)] at hz; subst hz; exact hK)))); (conv => whnf)) | ((with_reducible apply z_wrap); (focus omega); (conv => whnf)) | ((with_reducible first | apply mt_dec | apply mt_eq | apply mt_ne | apply mt_not | apply mt_any) <;> (intro _; conv => whnf)))
  refine ACalls.mono (post := fun av L => av = .tup [.d (.sl 3 (votesD [⟨1, 1, 5⟩])), .d (.int .i64 0)] ∧ L = []) h4 ?_
  rintro _ _ ⟨rfl, rfl⟩
  conv => whnf
  repeat' (first | ((with_reducible apply rd_intro); (focus (intro K hK; (conv => whnf); first | exact hK | (intro z hz; rw [wrapI (by omega)] at hz; subst hz; exact hK))); (conv => whnf)) | ((with_reducible apply gd_and); (focus ((conv => whnf) <;> first | rfl | (intro K hK; (conv => whnf); first | exact hK | (intro z hz; rw [wrapI (by omega)] at hz; subst hz; exact hK)))); (conv => whnf)) | ((with_reducible apply z_wrap); (focus omega); (conv => whnf)) | ((with_reducible first | apply mt_dec | apply mt_eq | apply mt_ne | apply mt_not | apply mt_any) <;> (intro _; conv => whnf)))
  refine ACalls.mono (post := fun av L => av = .d (.sl 1 []) ∧ L = []) (cloneI_ok [] (by decide)) ?_
  rintro _ _ ⟨rfl, rfl⟩
  conv => whnf
  repeat' (first | ((with_reducible apply rd_intro); (focus (intro K hK; (conv => whnf); first | exact hK | (intro z hz; rw [wrapI (by omega)] at hz; subst hz; exact hK))); (conv => whnf)) | ((with_reducible apply gd_and); (focus ((conv => whnf) <;> first | rfl | (intro K hK; (conv => whnf); first | exact hK | (intro z hz; rw [wrapI (by omega)] at hz; subst hz; exact hK)))); (conv => whnf)) | ((with_reducible apply z_wrap); (focus omega); (conv => whnf)) | ((with_reducible first | apply mt_dec | apply mt_eq | apply mt_ne | apply mt_not | apply mt_any) <;> (intro _; conv => whnf)))
  (with_reducible refine draw_pl ttOk zOk foOk mixedOk plSay8 ?_ ?_)
  focus kernel_rfl
  conv => whnf
  repeat' (first | ((with_reducible apply rd_intro); (focus (intro K hK; (conv => whnf); first | exact hK | (intro z hz; rw [wrapI (by omega)] at hz; subst hz; exact hK))); (conv => whnf)) | ((with_reducible apply gd_and); (focus ((conv => whnf) <;> first | rfl | (intro K hK; (conv => whnf); first | exact hK | (intro z hz; rw [wrapI (by omega)] at hz; subst hz; exact hK)))); (conv => whnf)) | ((with_reducible apply z_wrap); (focus omega); (conv => whnf)) | ((with_reducible first | apply mt_dec | apply mt_eq | apply mt_ne | apply mt_not | apply mt_any) <;> (intro _; conv => whnf)))
  refine ACalls.mono (post := fun av L => av = loneH.hav ∧ L = []) h5 ?_
  rintro _ _ ⟨rfl, rfl⟩
  conv => whnf
  repeat' (first | ((with_reducible apply rd_intro); (focus (intro K hK; (conv => whnf); first | exact hK | (intro z hz; rw [wrapI (by omega)] at hz; subst hz; exact hK))); (conv => whnf)) | ((with_reducible apply gd_and); (focus ((conv => whnf) <;> first | rfl | (intro K hK; (conv => whnf); first | exact hK | (intro z hz; rw [wrapI (by omega)] at hz; subst hz; exact hK)))); (conv => whnf)) | ((with_reducible apply z_wrap); (focus omega); (conv => whnf)) | ((with_reducible first | apply mt_dec | apply mt_eq | apply mt_ne | apply mt_not | apply mt_any) <;> (intro _; conv => whnf)))
  refine (acalls_nw h6 (.cons (.refl _) (.cons (.agg ?_) (.cons (.refl _) .nil)))).mono ?_
  · repeat (first | exact .nil | refine .cons (.refl _) ?_ | refine .cons (.nils _ (by decide)) ?_)
  rintro _ _ ⟨rfl, j, rfl⟩
  cases j
  all_goals
    conv => whnf
    repeat' (first | ((with_reducible apply rd_intro); (focus (intro K hK; (conv => whnf); first | exact hK | (intro z hz; rw [wrapI (by omega)] at hz; subst hz; exact hK))); (conv => whnf)) | ((with_reducible apply gd_and); (focus ((conv => whnf) <;> first | rfl | (intro K hK; (conv => whnf); first | exact hK | (intro z hz; rw [wrapI (by omega)] at hz; subst hz; exact hK)))); (conv => whnf)) | ((with_reducible apply z_wrap); (focus omega); (conv => whnf)) | ((with_reducible first | apply mt_dec | apply mt_eq | apply mt_ne | apply mt_not | apply mt_any) <;> (intro _; conv => whnf)))
    refine h7.mono ?_
    rintro _ _ ⟨rfl, j, rfl⟩
    cases j
    all_goals
      conv => whnf
      repeat' (first | ((with_reducible apply rd_intro); (focus (intro K hK; (conv => whnf); first | exact hK | (intro z hz; rw [wrapI (by omega)] at hz; subst hz; exact hK))); (conv => whnf)) | ((with_reducible apply gd_and); (focus ((conv => whnf) <;> first | rfl | (intro K hK; (conv => whnf); first | exact hK | (intro z hz; rw [wrapI (by omega)] at hz; subst hz; exact hK)))); (conv => whnf)) | ((with_reducible apply z_wrap); (focus omega); (conv => whnf)) | ((with_reducible first | apply mt_dec | apply mt_eq | apply mt_ne | apply mt_not | apply mt_any) <;> (intro _; conv => whnf)))
      ((with_reducible refine draw_pl ttOk zOk foOk mixedOk pl62x11 ?_ ?_); (focus kernel_rfl); (conv => whnf))
      repeat' (first | ((with_reducible apply rd_intro); (focus (intro K hK; (conv => whnf); first | exact hK | (intro z hz; rw [wrapI (by omega)] at hz; subst hz; exact hK))); (conv => whnf)) | ((with_reducible apply gd_and); (focus ((conv => whnf) <;> first | rfl | (intro K hK; (conv => whnf); first | exact hK | (intro z hz; rw [wrapI (by omega)] at hz; subst hz; exact hK)))); (conv => whnf)) | ((with_reducible apply z_wrap); (focus omega); (conv => whnf)) | ((with_reducible first | apply mt_dec | apply mt_eq | apply mt_ne | apply mt_not | apply mt_any) <;> (intro _; conv => whnf)))
      exact ⟨rfl, rfl⟩
end Go.Proofs.YtdlfmgcmfoehdaaGreat

namespace Go.Proofs.YtdlfmgcmfoehdaaGreat
open Go.Ab Go.RowKit Go.MapKept
attribute [local irreducible] ACalls AW ADraw Into fltB fnear
set_option maxRecDepth 100000
/-! ## .. and is certified at once -/
theorem num20_ok (n : Int) : ACalls Tryz.prog 11 [.d (.int .i64 n)] [] (fun av L => av = .d (.int .i64 n) ∧ L = []) := by
  refine acalls_go ttOk zOk foOk Tryz.func11 rfl Tryz.ntmps11 rfl false rfl ?_
  conv => whnf
  repeat' (first | ((with_reducible apply rd_intro); (focus (intro K hK; (conv => whnf); first | exact hK | (intro z hz; rw [wrapI (by omega)] at hz; subst hz; exact hK))); (conv => whnf)) | ((with_reducible apply gd_and); (focus ((conv => whnf) <;> first | rfl | (intro K hK; (conv => whnf); first | exact hK | (intro z hz; rw [wrapI (by omega)] at hz; subst hz; exact hK)))); (conv => whnf)) | ((with_reducible apply z_wrap); (focus omega); (conv => whnf)) | ((with_reducible first | apply mt_dec | apply mt_eq | apply mt_ne | apply mt_not | apply mt_any) <;> (intro _; conv => whnf)))
  exact ⟨rfl, rfl⟩
theorem lone_tiny : lone.tiny := ⟨⟨tiny_nil, tiny_nil, tiny_nil⟩, by decide, by decide, ⟨tiny_nil, fun c h => (by cases h)⟩, ⟨tiny_nil, fun c h => (by cases h)⟩⟩
theorem proposed1 : ACalls Tryz.prog 20 [lone.av, loneH.hav, .d (.int .i64 5)] [] (fun av L => av = .tup [lone3.av, .d (.sl 1 []), .d (.sl 18 []), .d (.int .i64 0)] ∧ L = []) := by
  have h1 := primMay_true lone lone_bare
  have h2 := mayH1
  have h3 := primOwn_ok lone lone_tiny
  have h4 := say1
  refine acalls_go ttOk zOk foOk Tryz.func20 rfl Tryz.ntmps20 rfl false rfl ?_
  conv => whnf
  repeat' (first | ((with_reducible apply rd_intro); (focus (intro K hK; (conv => whnf); first | exact hK | (intro z hz; rw [wrapI (by omega)] at hz; subst hz; exact hK))); (conv => whnf)) | ((with_reducible apply gd_and); (focus ((conv => whnf) <;> first | rfl | (intro K hK; (conv => whnf); first | exact hK | (intro z hz; rw [wrapI (by omega)] at hz; subst hz; exact hK)))); (conv => whnf)) | ((with_reducible apply z_wrap); (focus omega); (conv => whnf)) | ((with_reducible first | apply mt_dec | apply mt_eq | apply mt_ne | apply mt_not | apply mt_any) <;> (intro _; conv => whnf)))
  refine ACalls.mono (post := fun av L => av = .d (.bool true) ∧ L = []) h1 ?_
  rintro _ _ ⟨rfl, rfl⟩
  conv => whnf
  repeat' (first | ((with_reducible apply rd_intro); (focus (intro K hK; (conv => whnf); first | exact hK | (intro z hz; rw [wrapI (by omega)] at hz; subst hz; exact hK))); (conv => whnf)) | ((with_reducible apply gd_and); (focus ((conv => whnf) <;> first | rfl | (intro K hK; (conv => whnf); first | exact hK | (intro z hz; rw [wrapI (by omega)] at hz; subst hz; exact hK)))); (conv => whnf)) | ((with_reducible apply z_wrap); (focus omega); (conv => whnf)) | ((with_reducible first | apply mt_dec | apply mt_eq | apply mt_ne | apply mt_not | apply mt_any) <;> (intro _; conv => whnf)))
  refine (digest_ok 5).mono ?_
  rintro _ _ ⟨rfl, rfl⟩
  conv => whnf
  repeat' (first | ((with_reducible apply rd_intro); (focus (intro K hK; (conv => whnf); first | exact hK | (intro z hz; rw [wrapI (by omega)] at hz; subst hz; exact hK))); (conv => whnf)) | ((with_reducible apply gd_and); (focus ((conv => whnf) <;> first | rfl | (intro K hK; (conv => whnf); first | exact hK | (intro z hz; rw [wrapI (by omega)] at hz; subst hz; exact hK)))); (conv => whnf)) | ((with_reducible apply z_wrap); (focus omega); (conv => whnf)) | ((with_reducible first | apply mt_dec | apply mt_eq | apply mt_ne | apply mt_not | apply mt_any) <;> (intro _; conv => whnf)))
  refine ACalls.mono (post := fun av L => av = .d (.bool true) ∧ L = []) h2 ?_
  rintro _ _ ⟨rfl, rfl⟩
  conv => whnf
  repeat' (first | ((with_reducible apply rd_intro); (focus (intro K hK; (conv => whnf); first | exact hK | (intro z hz; rw [wrapI (by omega)] at hz; subst hz; exact hK))); (conv => whnf)) | ((with_reducible apply gd_and); (focus ((conv => whnf) <;> first | rfl | (intro K hK; (conv => whnf); first | exact hK | (intro z hz; rw [wrapI (by omega)] at hz; subst hz; exact hK)))); (conv => whnf)) | ((with_reducible apply z_wrap); (focus omega); (conv => whnf)) | ((with_reducible first | apply mt_dec | apply mt_eq | apply mt_ne | apply mt_not | apply mt_any) <;> (intro _; conv => whnf)))
  ((with_reducible refine draw_pl ttOk zOk foOk mixedOk pl20x3 ?_ ?_); (focus kernel_rfl); (conv => whnf))
  repeat' (first | ((with_reducible apply rd_intro); (focus (intro K hK; (conv => whnf); first | exact hK | (intro z hz; rw [wrapI (by omega)] at hz; subst hz; exact hK))); (conv => whnf)) | ((with_reducible apply gd_and); (focus ((conv => whnf) <;> first | rfl | (intro K hK; (conv => whnf); first | exact hK | (intro z hz; rw [wrapI (by omega)] at hz; subst hz; exact hK)))); (conv => whnf)) | ((with_reducible apply z_wrap); (focus omega); (conv => whnf)) | ((with_reducible first | apply mt_dec | apply mt_eq | apply mt_ne | apply mt_not | apply mt_any) <;> (intro _; conv => whnf)))
  refine ACalls.mono (post := fun av L => av = lone.av ∧ L = []) h3 ?_
  rintro _ _ ⟨rfl, rfl⟩
  conv => whnf
  repeat' (first | ((with_reducible apply rd_intro); (focus (intro K hK; (conv => whnf); first | exact hK | (intro z hz; rw [wrapI (by omega)] at hz; subst hz; exact hK))); (conv => whnf)) | ((with_reducible apply gd_and); (focus ((conv => whnf) <;> first | rfl | (intro K hK; (conv => whnf); first | exact hK | (intro z hz; rw [wrapI (by omega)] at hz; subst hz; exact hK)))); (conv => whnf)) | ((with_reducible apply z_wrap); (focus omega); (conv => whnf)) | ((with_reducible first | apply mt_dec | apply mt_eq | apply mt_ne | apply mt_not | apply mt_any) <;> (intro _; conv => whnf)))
  refine ACalls.mono (post := fun av L => av = .tup [lone3.av, .d (.sl 1 []), .d (.sl 18 []), .d (.int .i64 0)] ∧ L = []) h4 ?_
  rintro _ _ ⟨rfl, rfl⟩
  conv => whnf
  repeat' (first | ((with_reducible apply rd_intro); (focus (intro K hK; (conv => whnf); first | exact hK | (intro z hz; rw [wrapI (by omega)] at hz; subst hz; exact hK))); (conv => whnf)) | ((with_reducible apply gd_and); (focus ((conv => whnf) <;> first | rfl | (intro K hK; (conv => whnf); first | exact hK | (intro z hz; rw [wrapI (by omega)] at hz; subst hz; exact hK)))); (conv => whnf)) | ((with_reducible apply z_wrap); (focus omega); (conv => whnf)) | ((with_reducible first | apply mt_dec | apply mt_eq | apply mt_ne | apply mt_not | apply mt_any) <;> (intro _; conv => whnf)))
  exact ⟨rfl, rfl⟩
theorem wakes_ok : ACalls Tryz.prog 15 [] [] (fun av L => av = .d (.bool true) ∧ L = []) := by
  have h1 := new_ok 1 1 (by decide) (by decide)
  have h2 := make1
  have h3 := proposed1
  refine acalls_go ttOk zOk foOk Tryz.func15 rfl Tryz.ntmps15 rfl false rfl ?_
  conv => whnf
  repeat' (first | ((with_reducible apply rd_intro); (focus (intro K hK; (conv => whnf); first | exact hK | (intro z hz; rw [wrapI (by omega)] at hz; subst hz; exact hK))); (conv => whnf)) | ((with_reducible apply gd_and); (focus ((conv => whnf) <;> first | rfl | (intro K hK; (conv => whnf); first | exact hK | (intro z hz; rw [wrapI (by omega)] at hz; subst hz; exact hK)))); (conv => whnf)) | ((with_reducible apply z_wrap); (focus omega); (conv => whnf)) | ((with_reducible first | apply mt_dec | apply mt_eq | apply mt_ne | apply mt_not | apply mt_any) <;> (intro _; conv => whnf)))
  refine ACalls.mono (post := fun av L => av = .tup [lone.av, .d (.int .i64 0)] ∧ L = []) h1 ?_
  rintro _ _ ⟨rfl, rfl⟩
  conv => whnf
  repeat' (first | ((with_reducible apply rd_intro); (focus (intro K hK; (conv => whnf); first | exact hK | (intro z hz; rw [wrapI (by omega)] at hz; subst hz; exact hK))); (conv => whnf)) | ((with_reducible apply gd_and); (focus ((conv => whnf) <;> first | rfl | (intro K hK; (conv => whnf); first | exact hK | (intro z hz; rw [wrapI (by omega)] at hz; subst hz; exact hK)))); (conv => whnf)) | ((with_reducible apply z_wrap); (focus omega); (conv => whnf)) | ((with_reducible first | apply mt_dec | apply mt_eq | apply mt_ne | apply mt_not | apply mt_any) <;> (intro _; conv => whnf)))
  refine ACalls.mono (post := fun av L => av = .tup [loneH.hav, .d (.int .i64 0)] ∧ L = []) h2 ?_
  rintro _ _ ⟨rfl, rfl⟩
  conv => whnf
  repeat' (first | ((with_reducible apply rd_intro); (focus (intro K hK; (conv => whnf); first | exact hK | (intro z hz; rw [wrapI (by omega)] at hz; subst hz; exact hK))); (conv => whnf)) | ((with_reducible apply gd_and); (focus ((conv => whnf) <;> first | rfl | (intro K hK; (conv => whnf); first | exact hK | (intro z hz; rw [wrapI (by omega)] at hz; subst hz; exact hK)))); (conv => whnf)) | ((with_reducible apply z_wrap); (focus omega); (conv => whnf)) | ((with_reducible first | apply mt_dec | apply mt_eq | apply mt_ne | apply mt_not | apply mt_any) <;> (intro _; conv => whnf)))
  refine ACalls.mono (post := fun av L => av = .tup [lone3.av, .d (.sl 1 []), .d (.sl 18 []), .d (.int .i64 0)] ∧ L = []) h3 ?_
  rintro _ _ ⟨rfl, rfl⟩
  conv => whnf
  repeat' (first | ((with_reducible apply rd_intro); (focus (intro K hK; (conv => whnf); first | exact hK | (intro z hz; rw [wrapI (by omega)] at hz; subst hz; exact hK))); (conv => whnf)) | ((with_reducible apply gd_and); (focus ((conv => whnf) <;> first | rfl | (intro K hK; (conv => whnf); first | exact hK | (intro z hz; rw [wrapI (by omega)] at hz; subst hz; exact hK)))); (conv => whnf)) | ((with_reducible apply z_wrap); (focus omega); (conv => whnf)) | ((with_reducible first | apply mt_dec | apply mt_eq | apply mt_ne | apply mt_not | apply mt_any) <;> (intro _; conv => whnf)))
  iterate 3
    refine (num20_ok 0).mono ?_
    rintro _ _ ⟨rfl, rfl⟩
    conv => whnf
    repeat' (first | ((with_reducible apply rd_intro); (focus (intro K hK; (conv => whnf); first | exact hK | (intro z hz; rw [wrapI (by omega)] at hz; subst hz; exact hK))); (conv => whnf)) | ((with_reducible apply gd_and); (focus ((conv => whnf) <;> first | rfl | (intro K hK; (conv => whnf); first | exact hK | (intro z hz; rw [wrapI (by omega)] at hz; subst hz; exact hK)))); (conv => whnf)) | ((with_reducible apply z_wrap); (focus omega); (conv => whnf)) | ((with_reducible first | apply mt_dec | apply mt_eq | apply mt_ne | apply mt_not | apply mt_any) <;> (intro _; conv => whnf)))
  intro z hz
  have hz0 : z = 0 := hz
  subst hz0
  conv => whnf
  repeat' (first | ((with_reducible apply rd_intro); (focus (intro K hK; (conv => whnf); first | exact hK | (intro z hz; rw [wrapI (by omega)] at hz; subst hz; exact hK))); (conv => whnf)) | ((with_reducible apply gd_and); (focus ((conv => whnf) <;> first | rfl | (intro K hK; (conv => whnf); first | exact hK | (intro z hz; rw [wrapI (by omega)] at hz; subst hz; exact hK)))); (conv => whnf)) | ((with_reducible apply z_wrap); (focus omega); (conv => whnf)) | ((with_reducible first | apply mt_dec | apply mt_eq | apply mt_ne | apply mt_not | apply mt_any) <;> (intro _; conv => whnf)))
  exact ⟨rfl, rfl⟩
end Go.Proofs.YtdlfmgcmfoehdaaGreat

namespace Go.Proofs.YtdlfmgcmfoehdaaGreat
open Go.Ab Go.RowKit Go.MapKept
attribute [local irreducible] ACalls AW ADraw Into fltB fnear
set_option maxRecDepth 100000
structure Msg.ok (m : Msg) : Prop where
  txs : few m.txs
  head : m.head.ok
  cert : m.cert.ok
  digs : few m.digs
structure Act where
  doo : Int
  d : Int
  h : Cert
  m : Msg
  fit : Bool
  l : List Int
def Act.cs (a : Act) : List DV := [.int .i64 a.doo, .int .i64 a.d, .int .i64 a.h.author, .int .i64 a.h.round, .sl 1 (nums a.h.bats), .sl 1 (nums a.h.pars),
  .int .i64 a.m.kind, .int .i64 a.m.src, .int .i64 a.m.dst, .int .i64 a.m.digest, .int .i64 a.m.ba, .int .i64 a.m.bn, .sl 4 (txsD a.m.txs), .int .i64 a.m.head.author, .int .i64 a.m.head.round, .sl 1 (nums a.m.head.bats), .sl 1 (nums a.m.head.pars), .int .i64 a.m.cert.author, .int .i64 a.m.cert.round, .sl 1 (nums a.m.cert.bats), .sl 1 (nums a.m.cert.pars), .int .i64 a.m.cert.digest, .sl 1 (nums a.m.cert.sigs), .sl 1 (nums a.m.digs),
  .bool a.fit, .sl 1 (nums a.l)]
def actsD (l : List Act) : List (List DV) := l.map Act.cs
structure Act.ok (a : Act) : Prop where
  h : a.h.ok
  m : a.m.ok
structure Script where
  p : Prim
  acts : List Act
def Script.cs (s : Script) : List DV := [.int .i64 s.p.id, .int .i64 s.p.nodes, .int .i64 s.p.round, .int .i64 s.p.age, .int .i64 s.p.said, .int .i64 s.p.mine.author, .int .i64 s.p.mine.round, .sl 1 (nums s.p.mine.bats), .sl 1 (nums s.p.mine.pars), .int .i64 s.p.dig, .sl 1 (nums s.p.acks), .sl 3 (votesD s.p.votes), .int .i64 s.p.dag.nodes, .int .i64 s.p.dag.low, .sl 6 (certsD s.p.dag.certs), .sl 6 (certsD s.p.late), .sl 26 (actsD s.acts)]
def Script.av (s : Script) : AV := .agg (s.cs.map AV.d)
structure Script.ok (s : Script) : Prop where
  mine : s.p.mine.ok
  acks : few s.p.acks
  votes : few s.p.votes
  dag : s.p.dag.ok
  late : few s.p.late ∧ ∀ c ∈ s.p.late, c.ok
  acts : few s.acts ∧ ∀ a ∈ s.acts, a.ok
end Go.Proofs.YtdlfmgcmfoehdaaGreat

namespace Go.Ab
open Go.RowKit
end Go.Ab

namespace Go.Proofs.YtdlfmgcmfoehdaaGreat
open Go.Ab Go.RowKit Go.MapKept
attribute [local irreducible] ACalls AW ADraw Into fltB fnear
set_option maxRecDepth 100000
end Go.Proofs.YtdlfmgcmfoehdaaGreat

namespace Go.Proofs.YtdlfmgcmfoehdaaGreat
open Go.Ab Go.RowKit Go.MapKept
attribute [local irreducible] ACalls AW ADraw Into fltB fnear
set_option maxRecDepth 100000
end Go.Proofs.YtdlfmgcmfoehdaaGreat

namespace Go.Proofs.YtdlfmgcmfoehdaaGreat
open Go.Ab Go.RowKit Go.MapKept
attribute [local irreducible] ACalls AW ADraw Into fltB fnear
set_option maxRecDepth 100000
/-! ## the plain law of PrimaryWaits -/
structure FramI (i n : Int) (p : Prim) : Prop where
  id : p.id = i
  nodes : p.nodes = n
  round : p.round = 1
  age : p.age = 0
  said : p.said = 0
  mine : p.mine = cz0
  dig : p.dig = 0
  acks : p.acks = []
  votes : p.votes = []
theorem framI_new (i n : Int) : FramI i n (newP i n) := ⟨rfl, rfl, rfl, rfl, rfl, rfl, rfl, rfl, rfl⟩
theorem framI_in {i n : Int} {p : Prim} (h : FramI i n p) (c : Cert) : FramI i n (inP p c) := by
  unfold inP
  split
  · exact ⟨h.id, h.nodes, h.round, h.age, h.said, h.mine, h.dig, h.acks, h.votes⟩
  · split
    · exact ⟨h.id, h.nodes, h.round, h.age, h.said, h.mine, h.dig, h.acks, h.votes⟩
    · exact h
theorem bare_of {i : Int} {p : Prim} (hv : Valid p.dag) (hi : p.id = i ∧ 1 ≤ i ∧ i ≤ p.nodes) (hn : p.dag.nodes = p.nodes) (hr : 1 ≤ p.round ∧ p.round ≤ 1099511627776) (ha : 0 ≤ p.age ∧ p.age ≤ 1099511627776) (hs : p.said = 0) (hm : p.mine = cz0) (hd : p.dig = 0) (hk : p.acks = []) (hvt : p.votes = []) (hl : p.late = []) (hsz : p.dag.certs.length ≤ 1000) : TakeOk p := by
  refine ⟨⟨⟨⟨by rw [hm]; rfl, by rw [hm]; rfl, by rw [hm]; rfl, by rw [hm]; rfl⟩, hd, hk⟩, by rw [← hn]; exact hv.nodes, by omega, hr, ha, by omega, hvt, hv, hn, ⟨by rw [hl]; decide, by rw [hl]; exact List.Pairwise.nil, fun c hc => by rw [hl] at hc; cases hc⟩⟩, ⟨by rw [hm]; exact cz0_tiny, by rw [hk]; decide, by rw [hvt]; decide, ⟨by show p.dag.certs.length ≤ _; omega, fun c hc => certTiny_of hv.nodes (hv.certs c hc)⟩, ⟨by rw [hl]; exact tiny_nil, fun c hc => by rw [hl] at hc; cases hc⟩⟩, ⟨hv, by rw [hl]; show p.dag.certs.length + 0 ≤ _; omega, fun c hc => by rw [hl] at hc; cases hc⟩, by rw [hl]; show p.dag.certs.length + 0 < _; omega⟩
theorem late_takeI {i : Int} {D : Dag} (hD : Valid D) (hlen : D.certs.length ≤ 30) {p : Prim} (hi : 1 ≤ i ∧ i ≤ D.nodes) (hf : FramI i D.nodes p) {done : List Cert} (h : LateI D done p) : TakeOk p := by
  have hnn := of_decide_eq_true hD.nodes
  have hdl := sub_few h.valid h.dsub
  have hll := late_few h.ris h.lsub
  have hi2 := hf.id
  have hn := hf.nodes
  have hr := hf.round
  have ha := hf.age
  have hs := hf.said
  refine ⟨⟨⟨⟨by rw [hf.mine]; rfl, by rw [hf.mine]; rfl, by rw [hf.mine]; rfl, by rw [hf.mine]; rfl⟩, hf.dig, hf.acks⟩, by rw [hn]; exact hD.nodes, by omega, by omega, by omega, by omega, hf.votes, h.valid, by rw [h.nodes, hn], ⟨by omega, h.ris, fun c hc => ?_⟩⟩, ⟨by rw [hf.mine]; exact cz0_tiny, by rw [hf.acks]; decide, by rw [hf.votes]; decide, ⟨?_, fun c hc => ?_⟩, ⟨?_, fun c hc => ?_⟩⟩, ⟨h.valid, by omega, fun c hc => ?_⟩, by omega⟩
  · rw [hn]
    exact ⟨hD.certs c (h.lsub c hc), certFew_of hD.nodes (hD.certs c (h.lsub c hc))⟩
  · show p.dag.certs.length ≤ _
    omega
  · exact certTiny_of hD.nodes (hD.certs c (h.dsub c hc))
  · show p.late.length ≤ _
    omega
  · exact certTiny_of hD.nodes (hD.certs c (h.lsub c hc))
  · rw [h.nodes]
    exact ⟨hD.certs c (h.lsub c hc), certTiny_of hD.nodes (hD.certs c (h.lsub c hc))⟩
def kCert (r a : Int) : Cert := ⟨a, r, [], if r = 2 then [11, 12, 13, 14] else [], 10 * r + a, [1, 2, 3]⟩
def kCerts (w : Bool) : List Cert := [kCert 1 1, kCert 1 2, kCert 1 3, kCert 1 4] ++ (if w then [kCert 2 1] else []) ++ [kCert 2 2, kCert 2 3, kCert 2 4]
def kD (w : Bool) : Dag := ⟨4, 0, kCerts w⟩
theorem okH_k (r a : Int) (hr : r = 1 ∨ r = 2) (ha : 1 ≤ a ∧ a ≤ 4) : okCert 4 (kCert r a) := by
  have hrise : riseB [1, 2, 3] 1 4 := ⟨by unfold risingI; decide, by decide⟩
  have h4 : a = 1 ∨ a = 2 ∨ a = 3 ∨ a = 4 := by omega
  rcases hr with rfl | rfl
  · rcases h4 with rfl | rfl | rfl | rfl <;> exact ⟨⟨by decide, by decide, by decide, ⟨by decide, rise_nil 1 65536⟩, ⟨by decide, rise_nil 1 65536⟩, fun _ => rfl, fun h => absurd rfl h⟩, by decide, hrise, by decide⟩
  · rcases h4 with rfl | rfl | rfl | rfl <;> exact ⟨⟨by decide, by decide, by decide, ⟨by decide, rise_nil 1 65536⟩, ⟨by decide, ⟨by unfold risingI; decide, by decide⟩⟩, fun h => absurd h (by decide), fun _ => by decide⟩, by decide, hrise, by decide⟩
theorem kD_valid (w : Bool) : Valid (kD w) := by
  cases w
  · refine ⟨by decide, by decide, by decide, ?_, by decide, by unfold sortedC; decide, by decide, by decide⟩
    intro c hc
    simp only [kD, kCerts, List.mem_append, List.mem_cons, List.not_mem_nil, or_false, if_false, Bool.false_eq_true] at hc
    rcases hc with (rfl | rfl | rfl | rfl) | rfl | rfl | rfl <;> exact okH_k _ _ (by decide) (by decide)
  · refine ⟨by decide, by decide, by decide, ?_, by decide, by unfold sortedC; decide, by decide, by decide⟩
    intro c hc
    simp only [kD, kCerts, List.mem_append, List.mem_cons, List.not_mem_nil, or_false, if_true] at hc
    rcases hc with ((rfl | rfl | rfl | rfl) | rfl) | rfl | rfl | rfl <;> exact okH_k _ _ (by decide) (by decide)
def kTk (w : Bool) (n : Nat) : Option Cert := if n = 4 ∧ w = false then none else some (kCert (n / 4 + 1 : Nat) (n % 4 + 1 : Nat))
def kDone (w : Bool) : Nat → List Cert
  | 0 => []
  | n + 1 => match kTk w n with
    | none => kDone w n
    | some c => c :: kDone w n
def kP (w : Bool) : Nat → Prim
  | 0 => newP 4 4
  | n + 1 => match kTk w n with
    | none => kP w n
    | some c => inP (kP w n) c
theorem kTk_in (w : Bool) : ∀ n, n < 8 → ∀ c, kTk w n = some c → c ∈ (kD w).certs := by
  intro n hn c hc
  have h8 : n = 0 ∨ n = 1 ∨ n = 2 ∨ n = 3 ∨ n = 4 ∨ n = 5 ∨ n = 6 ∨ n = 7 := by omega
  cases w <;> rcases h8 with rfl | rfl | rfl | rfl | rfl | rfl | rfl | rfl <;> simp [kTk] at hc <;> subst hc <;> simp [kD, kCerts]
theorem kP_inv (w : Bool) : ∀ n, n ≤ 8 → FramI 4 4 (kP w n) ∧ LateI (kD w) (kDone w n) (kP w n)
  | 0, _ => ⟨framI_new 4 4, ⟨(new_bare (i := 4) (n := 4) (by decide) (by decide)).dag, rfl, rfl, fun c h => (by cases h), fun c h => (by cases h), fun c h => (by cases h), fun c h => (by cases h), List.Pairwise.nil⟩⟩
  | n + 1, hn => by
    obtain ⟨h1, h2⟩ := kP_inv w n (by omega)
    unfold kP kDone
    cases ht : kTk w n with
    | none => exact ⟨h1, h2⟩
    | some c => exact ⟨framI_in h1 c, in_r (kD_valid w) rfl (by cases w <;> decide) h2 (kTk_in w n (by omega) c ht)⟩
theorem kDone_all (w : Bool) : ∀ c ∈ (kD w).certs, c ∈ kDone w 8 := by
  cases w
  · simp [kD, kCerts, kDone, kTk]
  · simp [kD, kCerts, kDone, kTk]
def kQ (w : Bool) (r a : Int) : Prim := ⟨4, 4, r, a, 0, cz0, 0, [], [], kD w, []⟩
theorem kP_end (w : Bool) : kP w 8 = kQ w 1 0 := by
  obtain ⟨h1, h2⟩ := kP_inv w 8 (Nat.le_refl _)
  obtain ⟨e1, e2⟩ := late_end (kD_valid w) rfl h2 (kDone_all w)
  have e3 := h2.nodes
  have e4 := h2.low
  obtain ⟨f1, f2, f3, f4, f5, f6, f7, f8, f9⟩ := h1
  generalize kP w 8 = p at *
  obtain ⟨id, nodes, round, age, said, mine, dig, acks, votes, ⟨dn, dl, dc⟩, late⟩ := p
  simp only at e1 e2 e3 e4 f1 f2 f3 f4 f5 f6 f7 f8 f9
  subst e1 e2 e3 e4 f1 f2 f3 f4 f5 f6 f7 f8 f9
  rfl
theorem kTick0 : beatP (kQ false 1 0) = kQ false 2 0 := by rfl
theorem kTick1 : beatP (kQ true 1 0) = kQ true 3 0 := by rfl
end Go.Proofs.YtdlfmgcmfoehdaaGreat

namespace Go.Proofs.YtdlfmgcmfoehdaaGreat
open Go.Ab Go.RowKit Go.MapKept
attribute [local irreducible] ACalls AW ADraw Into fltB fnear
set_option maxRecDepth 100000
theorem kP_0 (w : Bool) : kP w 0 = newP 4 4 := by rw [kP]
theorem kP_some {w : Bool} {n : Nat} {c : Cert} (h : kTk w n = some c) : kP w (n + 1) = inP (kP w n) c := by
  rw [kP, h]
theorem kP_none {w : Bool} {n : Nat} (h : kTk w n = none) : kP w (n + 1) = kP w n := by
  rw [kP, h]
theorem kP_step (w R A : Nat) (hw : w = 0 ∨ w = 1) (hR : R = 0 ∨ R = 1) (hA : A < 4) (hs : ¬ (R = 1 ∧ A = 0 ∧ w = 0)) : kP (decide (w = 1)) (4 * R + (A + 1)) = inP (kP (decide (w = 1)) (4 * R + A)) (kCert (R + 1 : Nat) (A + 1 : Nat)) := by
  refine kP_some (n := 4 * R + A) ?_
  unfold kTk
  rw [if_neg (fun h => hs ?_), show (4 * R + A) / 4 = R by omega, show (4 * R + A) % 4 = A by omega]
  obtain ⟨h1, h2⟩ := h
  have := of_decide_eq_false h2
  omega
theorem kP_skip : kP (decide (0 = 1)) (4 * 1 + (0 + 1)) = kP (decide (0 = 1)) (4 * 1 + 0) := kP_none (n := 4) rfl
end Go.Proofs.YtdlfmgcmfoehdaaGreat

namespace Go.Proofs.YtdlfmgcmfoehdaaGreat
open Go.Ab Go.RowKit Go.MapKept
attribute [local irreducible] ACalls AW ADraw Into fltB fnear
set_option maxRecDepth 100000
theorem kP_take (w : Bool) (n : Nat) (hn : n ≤ 8) : TakeOk (kP w n) := by
  obtain ⟨h1, h2⟩ := kP_inv w n hn
  exact late_takeI (kD_valid w) (by cases w <;> decide) (by show (1 : Int) ≤ 4 ∧ (4 : Int) ≤ 4; decide) h1 h2
theorem kQ_take (w : Bool) (r a : Int) (hr : 1 ≤ r ∧ r ≤ 1099511627776) (ha : 0 ≤ a ∧ a ≤ 1099511627776) : TakeOk (kQ w r a) :=
  bare_of (i := 4) (kD_valid w) ⟨rfl, by decide, by show (4 : Int) ≤ 4; decide⟩ rfl hr ha rfl rfl rfl rfl rfl rfl (by show (kD w).certs.length ≤ 1000; cases w <;> decide)
def tk0 (t : Nat) : Prim := if t < 5 then kQ false 2 t else kQ false 3 0
theorem tk0_next (t : Nat) (ht : t < 5) : beatP (tk0 t) = tk0 (t + 1) := by
  have h5 : t = 0 ∨ t = 1 ∨ t = 2 ∨ t = 3 ∨ t = 4 := by omega
  rcases h5 with rfl | rfl | rfl | rfl | rfl <;> rfl
theorem tk0_take (t : Nat) (ht : t < 5) : TakeOk (tk0 t) := by
  unfold tk0
  rw [if_pos ht]
  exact kQ_take _ _ _ (by decide) ⟨by omega, by omega⟩
theorem tk0_round (t : Nat) (ht : t < 5) : (tk0 t).round = 2 := by unfold tk0; rw [if_pos ht]; rfl
def wb (w : Nat) : Bool := decide (w = 1)
theorem tickA : beatP (kQ (wb 0) 1 0) = tk0 0 := kTick0
theorem tickB : beatP (kQ (wb 1) 1 0) = kQ true 3 0 := kTick1
theorem kQ_round (w : Bool) (r a : Int) : (kQ w r a).round = r := rfl
theorem kQ_age (w : Bool) (r a : Int) : (kQ w r a).age = a := rfl
theorem tk0_5 : tk0 5 = kQ false 3 0 := rfl
structure Wrld where
  n : Int
  l : List (List DV)
def Wrld.cs (q : Wrld) : List DV := [.int .i64 q.n, .sl 3 q.l]
def Wrld.av (q : Wrld) : AV := .agg (q.cs.map AV.d)
attribute [local irreducible] kP kQ tk0 beatP
set_option maxHeartbeats 4000000 in
theorem primaryWaits_ok (q : Wrld) (_ : True) : ACalls Tryz.prog 7 [q.av] [] (fun av L => av = .d (.bool true) ∧ L = []) := by
  refine acalls_go ttOk zOk foOk Tryz.func7 rfl Tryz.ntmps7 rfl false rfl ?_
  conv => whnf
  repeat' (first | ((with_reducible apply z_wrap); (focus omega); (conv => whnf)) | ((with_reducible first | apply mt_dec | apply mt_eq | apply mt_ne | apply mt_not | apply mt_any) <;> (intro _; conv => whnf)))
  refine loop_go ttOk zOk foOk (σ := Nat) (fun w => ([(1, .ptr 0 0), (3, .d (.int .i64 w))], [.cells (q.cs.map AV.d)])) (fun w => w ≤ 2) (fun w => 2 - w) [1, 3] ?_ ?_
  · conv => whnf
    exact ⟨0, rfl, rfl, Nat.zero_le _⟩
  · intro w hw
    conv => whnf
    repeat' (first | ((with_reducible apply z_wrap); (focus omega); (conv => whnf)) | ((with_reducible first | apply mt_dec | apply mt_eq | apply mt_ne | apply mt_not | apply mt_any) <;> (intro _; conv => whnf)))
    · rename_i hlt
      refine ACalls.mono (post := fun av L => av = .tup [(newP 4 4).av, .d (.int .i64 0)] ∧ L = []) (new_ok 4 4 (by decide) (by decide)) ?_
      rintro _ _ ⟨rfl, rfl⟩
      conv => whnf
      repeat' (first | ((with_reducible apply z_wrap); (focus omega); (conv => whnf)) | ((with_reducible first | apply mt_dec | apply mt_eq | apply mt_ne | apply mt_not | apply mt_any) <;> (intro _; conv => whnf)))
      refine (num20_ok 0).mono ?_
      rintro _ _ ⟨rfl, rfl⟩
      conv => whnf
      repeat' (first | ((with_reducible apply z_wrap); (focus omega); (conv => whnf)) | ((with_reducible first | apply mt_dec | apply mt_eq | apply mt_ne | apply mt_not | apply mt_any) <;> (intro _; conv => whnf)))
      have hw2 : w = 0 ∨ w = 1 := by omega
      refine loop_go ttOk zOk foOk (σ := Nat) (fun R => ([(1, .ptr 0 0), (3, .d (.int .i64 w)), (4, .ptr 1 0), (6, .d (.int .i64 (R + 1 : Nat)))], [.cells (q.cs.map AV.d), .cells ((kP (wb w) (4 * R)).cs.map AV.d)])) (fun R => R ≤ 2) (fun R => 2 - R) [1, 3, 4, 6] ?_ ?_
      · conv => whnf
        exact ⟨0, rfl, by show _ = [AB.cells (q.cs.map AV.d), AB.cells ((kP (wb w) 0).cs.map AV.d)]; rw [kP_0]; rfl, Nat.zero_le _⟩
      · intro R hR
        by_cases hR2 : R < 2
        · conv => whnf
          refine mt_dec (fun _ => ?_) (fun h => absurd (show ((R + 1 : Nat) : Int) ≤ 2 by omega) h)
          conv => whnf
          repeat' (first | ((with_reducible apply z_wrap); (focus omega); (conv => whnf)) | ((with_reducible first | apply mt_dec | apply mt_eq | apply mt_ne | apply mt_not | apply mt_any) <;> (intro _; conv => whnf)))
          have hR3 : R = 0 ∨ R = 1 := by omega
          refine loop_go ttOk zOk foOk (σ := Nat) (fun A => ([(1, .ptr 0 0), (3, .d (.int .i64 w)), (4, .ptr 1 0), (6, .d (.int .i64 (R + 1 : Nat))), (7, .d (.int .i64 (A + 1 : Nat)))], [.cells (q.cs.map AV.d), .cells ((kP (wb w) (4 * R + A)).cs.map AV.d)])) (fun A => A ≤ 4) (fun A => 4 - A) [1, 3, 4, 6, 7] ?_ ?_
          · conv => whnf
            exact ⟨0, rfl, rfl, Nat.zero_le _⟩
          · intro A hA
            have hA4 : A = 0 ∨ A = 1 ∨ A = 2 ∨ A = 3 ∨ A = 4 := by omega
            have htk := kP_take (wb w) (4 * R + A) (by omega)
            have hfr := (kP_inv (wb w) (4 * R + A) (by omega)).1
            have hid := hfr.id
            have hnd := hfr.nodes
            by_cases hA3 : A < 4
            · have htake := take_ok _ htk 1 4 (kCert (R + 1 : Nat) (A + 1 : Nat)) (by rw [hnd]; exact okH_k _ _ (by omega) (by omega)) (by rw [hnd]; decide) (by decide) hid.symm
              by_cases hsk : R = 1 ∧ A = 0 ∧ w = 0
              · obtain ⟨rfl, rfl, rfl⟩ := hsk
                have hn : kP (wb 0) (4 * 1 + (0 + 1)) = kP (wb 0) (4 * 1 + 0) := kP_skip
                conv => whnf
                repeat' (first | ((with_reducible apply z_wrap); (focus omega); (conv => whnf)) | ((with_reducible first | apply mt_dec | apply mt_eq | apply mt_ne | apply mt_not | apply mt_any) <;> (intro _; conv => whnf)))
                exact ⟨1, rfl, by rw [hn]; rfl, by decide, by decide⟩
              · have hn : kP (wb w) (4 * R + (A + 1)) = inP (kP (wb w) (4 * R + A)) (kCert (R + 1 : Nat) (A + 1 : Nat)) := kP_step w R A hw2 hR3 hA3 hsk
                rcases hR3 with rfl | rfl
                · conv => whnf
                  refine mt_dec (fun _ => ?_) (fun h => absurd (show ((A + 1 : Nat) : Int) ≤ 4 by omega) h)
                  conv => whnf
                  repeat' (first | ((with_reducible apply z_wrap); (focus omega); (conv => whnf)) | ((with_reducible first | apply mt_dec | apply mt_eq | apply mt_ne | apply mt_not | apply mt_any) <;> (intro _; conv => whnf)))
                  refine acalls_deep ?_
                  conv => whnf
                  refine (acalls_nw htake (.cons (.refl _) (.cons (.agg ?_) (.cons (.refl _) .nil)))).mono ?_
                  · repeat (first | exact .nil | refine .cons (.refl _) ?_ | refine .cons (.nils _ (by decide)) ?_)
                  rintro _ _ ⟨rfl, rfl⟩
                  conv => whnf
                  repeat' (first | ((with_reducible apply z_wrap); (focus omega); (conv => whnf)) | ((with_reducible first | apply mt_dec | apply mt_eq | apply mt_ne | apply mt_not | apply mt_any) <;> (intro _; conv => whnf)))
                  refine (num20_ok 0).mono ?_
                  rintro _ _ ⟨rfl, rfl⟩
                  conv => whnf
                  repeat' (first | ((with_reducible apply z_wrap); (focus omega); (conv => whnf)) | ((with_reducible first | apply mt_dec | apply mt_eq | apply mt_ne | apply mt_not | apply mt_any) <;> (intro _; conv => whnf)))
                  exact ⟨A + 1, rfl, by rw [hn]; rfl, by show A + 1 ≤ 4; omega, by show 4 - (A + 1) < 4 - A; omega⟩
                · conv => whnf
                  refine mt_dec (fun _ => ?_) (fun h => absurd (show ((A + 1 : Nat) : Int) ≤ 4 by omega) h)
                  conv => whnf
                  repeat' (first | ((with_reducible apply z_wrap); (focus omega); (conv => whnf)) | ((with_reducible first | apply mt_dec | apply mt_eq | apply mt_ne | apply mt_not | apply mt_any) <;> (intro _; conv => whnf)))
                  · rename_i g1 g2
                    replace g1 : ((A + 1 : Nat) : Int) = 1 := g1
                    replace g2 : (w : Int) = 0 := g2
                    exact absurd ⟨rfl, by omega, by omega⟩ hsk
                  · skip
                    refine acalls_deep ?_
                    conv => whnf
                    refine (acalls_nw htake (.cons (.refl _) (.cons (.agg ?_) (.cons (.refl _) .nil)))).mono ?_
                    · repeat (first | exact .nil | refine .cons (.refl _) ?_ | refine .cons (.nils _ (by decide)) ?_)
                    rintro _ _ ⟨rfl, rfl⟩
                    conv => whnf
                    repeat' (first | ((with_reducible apply z_wrap); (focus omega); (conv => whnf)) | ((with_reducible first | apply mt_dec | apply mt_eq | apply mt_ne | apply mt_not | apply mt_any) <;> (intro _; conv => whnf)))
                    refine (num20_ok 0).mono ?_
                    rintro _ _ ⟨rfl, rfl⟩
                    conv => whnf
                    repeat' (first | ((with_reducible apply z_wrap); (focus omega); (conv => whnf)) | ((with_reducible first | apply mt_dec | apply mt_eq | apply mt_ne | apply mt_not | apply mt_any) <;> (intro _; conv => whnf)))
                    exact ⟨A + 1, rfl, by rw [hn]; rfl, by show A + 1 ≤ 4; omega, by show 4 - (A + 1) < 4 - A; omega⟩
                  · skip
                    refine acalls_deep ?_
                    conv => whnf
                    refine (acalls_nw htake (.cons (.refl _) (.cons (.agg ?_) (.cons (.refl _) .nil)))).mono ?_
                    · repeat (first | exact .nil | refine .cons (.refl _) ?_ | refine .cons (.nils _ (by decide)) ?_)
                    rintro _ _ ⟨rfl, rfl⟩
                    conv => whnf
                    repeat' (first | ((with_reducible apply z_wrap); (focus omega); (conv => whnf)) | ((with_reducible first | apply mt_dec | apply mt_eq | apply mt_ne | apply mt_not | apply mt_any) <;> (intro _; conv => whnf)))
                    refine (num20_ok 0).mono ?_
                    rintro _ _ ⟨rfl, rfl⟩
                    conv => whnf
                    repeat' (first | ((with_reducible apply z_wrap); (focus omega); (conv => whnf)) | ((with_reducible first | apply mt_dec | apply mt_eq | apply mt_ne | apply mt_not | apply mt_any) <;> (intro _; conv => whnf)))
                    exact ⟨A + 1, rfl, by rw [hn]; rfl, by show A + 1 ≤ 4; omega, by show 4 - (A + 1) < 4 - A; omega⟩
            · have hA4 : A = 4 := by omega
              rcases hR3 with rfl | rfl
              · skip
                conv => whnf
                refine mt_dec (fun h => absurd (show ((A + 1 : Nat) : Int) ≤ 4 from h) (by omega)) (fun _ => ?_)
                conv => whnf
                repeat' (first | ((with_reducible apply z_wrap); (focus omega); (conv => whnf)) | ((with_reducible first | apply mt_dec | apply mt_eq | apply mt_ne | apply mt_not | apply mt_any) <;> (intro _; conv => whnf)))
                exact ⟨1, rfl, by rw [hA4]; rfl, by decide, by decide⟩
              · skip
                conv => whnf
                refine mt_dec (fun h => absurd (show ((A + 1 : Nat) : Int) ≤ 4 from h) (by omega)) (fun _ => ?_)
                conv => whnf
                repeat' (first | ((with_reducible apply z_wrap); (focus omega); (conv => whnf)) | ((with_reducible first | apply mt_dec | apply mt_eq | apply mt_ne | apply mt_not | apply mt_any) <;> (intro _; conv => whnf)))
                exact ⟨2, rfl, by rw [hA4]; rfl, by decide, by decide⟩
        · have hR3 : R = 2 := by omega
          have he : kP (wb w) (4 * R) = kQ (wb w) 1 0 := by rw [hR3]; exact kP_end (wb w)
          have ht1 := tick_ok (kQ (wb w) 1 0) (kQ_take (wb w) 1 0 (by decide) (by decide)).may (kQ_take (wb w) 1 0 (by decide) (by decide)).tiny
          rw [he]
          rcases hw2 with rfl | rfl
          · rw [tickA] at ht1
            have hr1 : (kQ (wb 0) 1 0).round = 1 := kQ_round _ _ _
            generalize kQ (wb 0) 1 0 = p1 at ht1 hr1 ⊢
            conv => whnf
            refine mt_dec (fun h => absurd (show ((R + 1 : Nat) : Int) ≤ 2 from h) (by omega)) (fun _ => ?_)
            conv => whnf
            repeat' (first | ((with_reducible apply z_wrap); (focus omega); (conv => whnf)) | ((with_reducible first | apply mt_dec | apply mt_eq | apply mt_ne | apply mt_not | apply mt_any) <;> (intro _; conv => whnf)))
            · rename_i g
              exact absurd hr1 g
            refine ht1.mono ?_
            rintro _ _ ⟨⟨out, rfl⟩, rfl⟩
            conv => whnf
            repeat' (first | ((with_reducible apply z_wrap); (focus omega); (conv => whnf)) | ((with_reducible first | apply mt_dec | apply mt_eq | apply mt_ne | apply mt_not | apply mt_any) <;> (intro _; conv => whnf)))
            refine (num20_ok 0).mono ?_
            rintro _ _ ⟨rfl, rfl⟩
            conv => whnf
            repeat' (first | ((with_reducible apply z_wrap); (focus omega); (conv => whnf)) | ((with_reducible first | apply mt_dec | apply mt_eq | apply mt_ne | apply mt_not | apply mt_any) <;> (intro _; conv => whnf)))
            refine loop_go ttOk zOk foOk (σ := Nat) (fun t => ([(1, .ptr 0 0), (3, .d (.int .i64 (0 : Nat))), (4, .ptr 1 0), (15, .d (.int .i64 t))], [.cells (q.cs.map AV.d), .cells ((tk0 t).cs.map AV.d)])) (fun t => t ≤ 5) (fun t => 5 - t) [1, 3, 4, 15] ?_ ?_
            · conv => whnf
              exact ⟨0, rfl, rfl, Nat.zero_le _⟩
            · intro t ht
              by_cases ht5 : t < 5
              · have hr2 := tk0_round t ht5
                have htk := tk0_take t ht5
                have ht2 := tick_ok (tk0 t) htk.may htk.tiny
                rw [tk0_next t ht5] at ht2
                generalize hp2 : tk0 t = p2 at ht2 hr2 ⊢
                conv => whnf
                refine mt_dec (fun _ => ?_) (fun h => absurd (show (t : Int) < 5 by omega) h)
                conv => whnf
                repeat' (first | ((with_reducible apply z_wrap); (focus omega); (conv => whnf)) | ((with_reducible first | apply mt_dec | apply mt_eq | apply mt_ne | apply mt_not | apply mt_any) <;> (intro _; conv => whnf)))
                · rename_i g
                  exact absurd hr2 g
                refine ht2.mono ?_
                rintro _ _ ⟨⟨out, rfl⟩, rfl⟩
                conv => whnf
                repeat' (first | ((with_reducible apply z_wrap); (focus omega); (conv => whnf)) | ((with_reducible first | apply mt_dec | apply mt_eq | apply mt_ne | apply mt_not | apply mt_any) <;> (intro _; conv => whnf)))
                refine (num20_ok 0).mono ?_
                rintro _ _ ⟨rfl, rfl⟩
                conv => whnf
                repeat' (first | ((with_reducible apply z_wrap); (focus omega); (conv => whnf)) | ((with_reducible first | apply mt_dec | apply mt_eq | apply mt_ne | apply mt_not | apply mt_any) <;> (intro _; conv => whnf)))
                exact ⟨t + 1, rfl, rfl, by show t + 1 ≤ 5; omega, by show 5 - (t + 1) < 5 - t; omega⟩
              · have ht6 : t = 5 := by omega
                have hr3 : (tk0 t).round = 3 := by rw [ht6, tk0_5]; exact kQ_round _ _ _
                have ha3 : (tk0 t).age = 0 := by rw [ht6, tk0_5]; exact kQ_age _ _ _
                generalize hp2 : tk0 t = p2 at hr3 ha3 ⊢
                conv => whnf
                refine mt_dec (fun h => absurd (show (t : Int) < 5 from h) (by omega)) (fun _ => ?_)
                conv => whnf
                repeat' (first | ((with_reducible apply z_wrap); (focus omega); (conv => whnf)) | ((with_reducible first | apply mt_dec | apply mt_eq | apply mt_ne | apply mt_not | apply mt_any) <;> (intro _; conv => whnf)))
                · rename_i g
                  exact absurd hr3 g
                · rename_i g
                  exact absurd ha3 g
                exact ⟨1, rfl, rfl, by decide, by decide⟩
          · rw [tickB] at ht1
            have hr1 : (kQ (wb 1) 1 0).round = 1 := kQ_round _ _ _
            have hr3 : (kQ true 3 0).round = 3 := kQ_round _ _ _
            generalize kQ (wb 1) 1 0 = p1 at ht1 hr1 ⊢
            generalize kQ true 3 0 = p3 at ht1 hr3
            conv => whnf
            refine mt_dec (fun h => absurd (show ((R + 1 : Nat) : Int) ≤ 2 from h) (by omega)) (fun _ => ?_)
            conv => whnf
            repeat' (first | ((with_reducible apply z_wrap); (focus omega); (conv => whnf)) | ((with_reducible first | apply mt_dec | apply mt_eq | apply mt_ne | apply mt_not | apply mt_any) <;> (intro _; conv => whnf)))
            · rename_i g
              exact absurd hr1 g
            refine ht1.mono ?_
            rintro _ _ ⟨⟨out, rfl⟩, rfl⟩
            conv => whnf
            repeat' (first | ((with_reducible apply z_wrap); (focus omega); (conv => whnf)) | ((with_reducible first | apply mt_dec | apply mt_eq | apply mt_ne | apply mt_not | apply mt_any) <;> (intro _; conv => whnf)))
            refine (num20_ok 0).mono ?_
            rintro _ _ ⟨rfl, rfl⟩
            conv => whnf
            repeat' (first | ((with_reducible apply z_wrap); (focus omega); (conv => whnf)) | ((with_reducible first | apply mt_dec | apply mt_eq | apply mt_ne | apply mt_not | apply mt_any) <;> (intro _; conv => whnf)))
            · rename_i g
              exact absurd hr3 g
            exact ⟨2, rfl, rfl, by decide, by decide⟩
    · refine ACalls.mono (post := fun av L => av = .d (.bool true) ∧ L = []) wakes_ok ?_
      rintro _ _ ⟨rfl, rfl⟩
      conv => whnf
      repeat' (first | ((with_reducible apply z_wrap); (focus omega); (conv => whnf)) | ((with_reducible first | apply mt_dec | apply mt_eq | apply mt_ne | apply mt_not | apply mt_any) <;> (intro _; conv => whnf)))
      exact ⟨rfl, rfl⟩
end Go.Proofs.YtdlfmgcmfoehdaaGreat

namespace Go.Proofs.YtdlfmgcmfoehdaaGreat
open Go.Ab Go.RowKit
theorem askW_fates {a : List DV} (h : DTy tt 3 66 a) : ∃ l : List (List DV), a = [.sl 3 l] := by
  replace h : ∃ xs, a = [.sl 3 xs] ∧ xs.length * 24 ≤ 140737488355328 ∧ ∀ x ∈ xs, DTy tt 2 77 x := h
  obtain ⟨x3, rfl, -, -⟩ := h
  exact ⟨x3, rfl⟩
theorem askW_of {ds : List DV} (h : DTy tt 4 68 ds) : ∃ q : Wrld, ds = q.cs ∧ True := by
  replace h : DTyF (DTy tt 3) [3, 66] ds := h
  obtain ⟨a1, b1, rfl, h1, a2, b2, rfl, h2, rfl⟩ := h
  replace h1 : ∃ x, a1 = [.int .i64 x] ∧ (Lit.int .i64 x).wf = true := h1
  obtain ⟨x1, rfl, w1⟩ := h1
  obtain ⟨l, rfl⟩ := askW_fates h2
  exact ⟨⟨x1, l⟩, rfl, trivial⟩
end Go.Proofs.YtdlfmgcmfoehdaaGreat

/- PrimaryWaits: for every argument the law returns true, and its argument reads behind the call as it read before. No condition of ours. -/
namespace Go.Proofs.YtdlfmgcmfoehdaaGreat
open Go.Ab Go.RowKit Go.ChangeShapes Go.WideShapes Go.ChangeAt
theorem own : ownKnob Tryz.prog.godebug = none := by kernel_rfl
theorem laidOut : laidOutB Tryz.prog = true := by kernel_rfl
set_option maxRecDepth 100000 in
theorem primaryWaits_lifted (os : Os) (started : os.Started) (H : Type) (enc : TypeId × Value → H) :
    ReturnsInHanded {} Tryz.checked os 7 .any (Rows.primaryWaitsSpec.pre6 enc Tryz.prog Tryz.f7 Rows.primaryWaitsRow.domain false) (Rows.primaryWaitsSpec.post enc Tryz.prog Tryz.f7 false true false false) := by
  refine returnsInHanded_of_change_sized (C := Tryz.checked) own started (by kernel_rfl) Tryz.func7
    (ChangeSpec.witness6 (enc := enc) (C := Tryz.checked) false ⟨#[], #[.agg #[.int .i64 0, .slice none 0 0]], []⟩ 8 (by kernel_rfl) (by kernel_rfl) (by kernel_rfl) (by kernel_rfl)) ?_
  intro W base args ds gs before hval hW _ hsz _
  exact law_contract ttOk (f := Tryz.f7) (tb := 4) (t := 68) rfl rfl Tryz.underlying4 rfl (fun _ _ => rfl) laidOut (by kernel_rfl) (of_decide_eq_true (by kernel_rfl)) 4 (by kernel_rfl) argS
    (fun W base v ds h1 h2 => argS_ok Tryz.underlying68 h1 h2)
    (fun ds hd => by
      obtain ⟨p, hp, hok⟩ := askW_of hd
      rw [hp]
      exact primaryWaits_ok p hok) hval hW hsz
theorem primaryWaits_holds : Rows.PrimaryWaitsSaid :=
  OpenClaim.holds_of_wide 7 Tryz.f7 rfl rfl rfl rfl rfl rfl rfl ⟨rfl, rfl, rfl, rfl, rfl⟩ rfl rfl rfl rfl rfl (by kernel_rfl) Tryz.func7 (by kernel_rfl)
    (of_decide_eq_true (by kernel_rfl)) (by unfold Func.isWrapper; first | (rw [if_pos (by decide +kernel)]; kernel_rfl) | (rw [if_neg (by decide +kernel)]; exact ⟨rfl, rfl⟩))
    (fun os started H enc _ => primaryWaits_lifted os started H enc)
#print axioms primaryWaits_holds
end Go.Proofs.YtdlfmgcmfoehdaaGreat
