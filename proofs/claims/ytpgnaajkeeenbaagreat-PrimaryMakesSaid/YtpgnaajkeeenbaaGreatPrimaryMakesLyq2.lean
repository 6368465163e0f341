/- PrimaryMakes: abstract runs. -/
import Derived.Test.YtpgnaajkeeenbaaGreatPrimaryMakesLyy2
set_option linter.unusedVariables false
set_option linter.unusedSimpArgs false
namespace Go.Ab
theorem aw_nilsL {P : Program} {n k0 : Nat} {code : Code} {Q : Exit → AF → List AB → Prop} {F : AF} {L L1 : List AB} (ps : List (Nat × Nat × Nat)) (hs : nilsAt ps L = some L1) (h : AW P n k0 code Q F L1) : AW P n k0 code Q F L := fun c E a w hc hcn hk hsim => by
  obtain ⟨s1, l1⟩ := nilsAt_ok hsim.h hs
  exact h c E a w hc hcn hk ⟨s1, fun s => VR.mono l1 _ _ (hsim.slots s), hsim.nt, hsim.df⟩
end Go.Ab
