/- NodeFormsCard: contracts. -/
import Derived.Test.YtgkhgapkfnkagaaGreatDoorNodeFormsCardCodC
import Derived.KernelRfl
set_option linter.unusedVariables false
set_option linter.unusedSimpArgs false
namespace Go.Proofs.YtgkhgapkfnkagaaGreatDoor
open Go.Ab Go.RowKit
set_option maxRecDepth 1000000
theorem rtick14:evB (evE (cE 80) 57 mtick14.avs mtick14.L [(0,23)] mtick14.nx) mtick14.v mtick14.L' mtick14.nx'=true:=by kernel_rfl
theorem rtick15:evB (evE (cE 80) 57 mtick15.avs mtick15.L [(0,23)] mtick15.nx) mtick15.v mtick15.L' mtick15.nx'=true:=by kernel_rfl
end Go.Proofs.YtgkhgapkfnkagaaGreatDoor
