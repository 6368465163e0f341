/- NodeFormsCard: contracts. -/
import Derived.Test.YtgkhgapkfnkagaaGreatDoorNodeFormsCardCodC
import Derived.KernelRfl
set_option linter.unusedVariables false
set_option linter.unusedSimpArgs false
namespace Go.Proofs.YtgkhgapkfnkagaaGreatDoor
open Go.Ab Go.RowKit
set_option maxRecDepth 1000000
theorem rtick10:evB (evE (cE 80) 57 mtick10.avs mtick10.L [(0,23)] mtick10.nx) mtick10.v mtick10.L' mtick10.nx'=true:=by kernel_rfl
theorem rtick11:evB (evE (cE 80) 57 mtick11.avs mtick11.L [(0,23)] mtick11.nx) mtick11.v mtick11.L' mtick11.nx'=true:=by kernel_rfl
end Go.Proofs.YtgkhgapkfnkagaaGreatDoor
