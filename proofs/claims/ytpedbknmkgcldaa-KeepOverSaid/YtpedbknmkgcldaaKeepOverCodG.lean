/- For every script the law KeepOver returns true, and its argument reads behind the call as it read before. No condition of ours. -/
import Derived.Test.YtpedbknmkgcldaaKeepOverCodF
import Derived.Test.YtpedbknmkgcldaaRows

set_option linter.unusedVariables false
set_option linter.unusedSimpArgs false
/- KeepOver: for every script the law returns true, and its argument reads behind the call as it read before. No condition of ours. -/
namespace Go.Proofs.Ytpedbknmkgcldaa
open Go.Ab Go.RowKit Go.ChangeShapes Go.WideShapes Go.ChangeAt
theorem own : ownKnob Try.prog.godebug = none := by kernel_rfl
theorem laidOut : laidOutB Try.prog = true := by kernel_rfl
set_option maxRecDepth 100000 in
theorem keepOver_lifted (os : Os) (started : os.Started) (H : Type) (enc : TypeId × Value → H) :
    ReturnsInHanded {} Try.checked os 12 .any (Rows.keepOverSpec.pre6 enc Try.prog Try.f12 Rows.keepOverRow.domain false) (Rows.keepOverSpec.post enc Try.prog Try.f12 false true false false) := by
  refine returnsInHanded_of_change_sized (C := Try.checked) own started (by kernel_rfl) Try.func12
    (ChangeSpec.witness6 (enc := enc) (C := Try.checked) false ⟨#[], #[.agg #[.slice none 0 0, .slice none 0 0]], []⟩ 8 (by kernel_rfl) (by kernel_rfl) (by kernel_rfl) (by kernel_rfl)) ?_
  intro W base args ds gs before hval hW _ hsz _
  exact law_contract ttOk (f := Try.f12) (tb := 4) (t := 89) rfl rfl Try.underlying4 rfl (fun _ _ => rfl) laidOut (by kernel_rfl) (of_decide_eq_true (by kernel_rfl)) 6 (by kernel_rfl) argS
    (fun W base v ds h1 h2 => argS_ok Try.underlying89 h1 h2)
    (fun ds hd => by
      obtain ⟨p, hp, hok⟩ := script11_of hd
      rw [hp]
      exact keepOver_ok _ _ (by rw [List.length_map]; exact hok.la)) hval hW hsz
theorem keepOver_holds : Rows.KeepOverSaid :=
  OpenClaim.holds_of_wide 12 Try.f12 rfl rfl rfl rfl rfl rfl rfl ⟨rfl, rfl, rfl, rfl, rfl⟩ rfl rfl rfl rfl rfl (by kernel_rfl) Try.func12 (by kernel_rfl)
    (of_decide_eq_true (by kernel_rfl)) (by unfold Func.isWrapper; first | (rw [if_pos (by decide +kernel)]; kernel_rfl) | (rw [if_neg (by decide +kernel)]; exact ⟨rfl, rfl⟩))
    (fun os started H enc _ => keepOver_lifted os started H enc)
#print axioms keepOver_holds
end Go.Proofs.Ytpedbknmkgcldaa
