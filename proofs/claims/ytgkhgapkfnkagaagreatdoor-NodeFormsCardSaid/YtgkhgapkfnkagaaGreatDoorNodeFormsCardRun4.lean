/- NodeFormsCard: contracts. -/
import Derived.Test.YtgkhgapkfnkagaaGreatDoorNodeFormsCardCodC
import Derived.KernelRfl
set_option linter.unusedVariables false
set_option linter.unusedSimpArgs false
namespace Go.Proofs.YtgkhgapkfnkagaaGreatDoor
open Go.Ab Go.RowKit
set_option maxRecDepth 1000000
theorem rtick6:evB (evE (cE 80) 57 mtick6.avs mtick6.L [(0,23)] mtick6.nx) mtick6.v mtick6.L' mtick6.nx'=true:=by kernel_rfl
theorem rtick7:evB (evE (cE 80) 57 mtick7.avs mtick7.L [(0,23)] mtick7.nx) mtick7.v mtick7.L' mtick7.nx'=true:=by kernel_rfl
end Go.Proofs.YtgkhgapkfnkagaaGreatDoor
