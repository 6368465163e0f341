/- NodeFormsCard: contracts. -/
import Derived.Test.YtgkhgapkfnkagaaGreatDoorNodeFormsCardCodC
import Derived.KernelRfl
set_option linter.unusedVariables false
set_option linter.unusedSimpArgs false
namespace Go.Proofs.YtgkhgapkfnkagaaGreatDoor
open Go.Ab Go.RowKit
set_option maxRecDepth 1000000
theorem rtick4:evB (evE (cE 80) 57 mtick4.avs mtick4.L [(0,19)] mtick4.nx) mtick4.v mtick4.L' mtick4.nx'=true:=by kernel_rfl
theorem rtick5:evB (evE (cE 80) 57 mtick5.avs mtick5.L [(0,20)] mtick5.nx) mtick5.v mtick5.L' mtick5.nx'=true:=by kernel_rfl
end Go.Proofs.YtgkhgapkfnkagaaGreatDoor
