/- NodeFormsCard: contracts. -/
import Derived.Test.YtgkhgapkfnkagaaGreatDoorNodeFormsCardCodC
import Derived.KernelRfl
set_option linter.unusedVariables false
set_option linter.unusedSimpArgs false
namespace Go.Proofs.YtgkhgapkfnkagaaGreatDoor
open Go.Ab Go.RowKit
set_option maxRecDepth 1000000
theorem rtick8:evB (evE (cE 80) 57 mtick8.avs mtick8.L [(0,23)] mtick8.nx) mtick8.v mtick8.L' mtick8.nx'=true:=by kernel_rfl
theorem rtick9:evB (evE (cE 80) 57 mtick9.avs mtick9.L [(0,23)] mtick9.nx) mtick9.v mtick9.L' mtick9.nx'=true:=by kernel_rfl
end Go.Proofs.YtgkhgapkfnkagaaGreatDoor
