/- NodeFormsCard: contracts. -/
import Derived.Test.YtgkhgapkfnkagaaGreatDoorNodeFormsCardCodC
import Derived.KernelRfl
set_option linter.unusedVariables false
set_option linter.unusedSimpArgs false
namespace Go.Proofs.YtgkhgapkfnkagaaGreatDoor
open Go.Ab Go.RowKit
set_option maxRecDepth 1000000
theorem rtick12:evB (evE (cE 80) 57 mtick12.avs mtick12.L [(0,23)] mtick12.nx) mtick12.v mtick12.L' mtick12.nx'=true:=by kernel_rfl
theorem rtick13:evB (evE (cE 80) 57 mtick13.avs mtick13.L [(0,23)] mtick13.nx) mtick13.v mtick13.L' mtick13.nx'=true:=by kernel_rfl
end Go.Proofs.YtgkhgapkfnkagaaGreatDoor
