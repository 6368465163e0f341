/- NodeFormsCard: contracts. -/
import Derived.Test.YtgkhgapkfnkagaaGreatDoorNodeFormsCardCodC
import Derived.KernelRfl
set_option linter.unusedVariables false
set_option linter.unusedSimpArgs false
namespace Go.Proofs.YtgkhgapkfnkagaaGreatDoor
open Go.Ab Go.RowKit
set_option maxRecDepth 1000000
theorem rtick2:evB (evE (cE 80) 57 mtick2.avs mtick2.L [(0,18)] mtick2.nx) mtick2.v mtick2.L' mtick2.nx'=true:=by kernel_rfl
theorem rtick3:evB (evE (cE 80) 57 mtick3.avs mtick3.L [(0,18)] mtick3.nx) mtick3.v mtick3.L' mtick3.nx'=true:=by kernel_rfl
end Go.Proofs.YtgkhgapkfnkagaaGreatDoor
