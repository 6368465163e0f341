/- NodeFormsCard: contracts. -/
import Derived.Test.YtgkhgapkfnkagaaGreatDoorNodeFormsCardCodC
import Derived.KernelRfl
set_option linter.unusedVariables false
set_option linter.unusedSimpArgs false
namespace Go.Proofs.YtgkhgapkfnkagaaGreatDoor
open Go.Ab Go.RowKit
set_option maxRecDepth 1000000
theorem rtick0:evB (evE (cE 80) 57 mtick0.avs mtick0.L [(0,17)] mtick0.nx) mtick0.v mtick0.L' mtick0.nx'=true:=by kernel_rfl
theorem rtick1:evB (evE (cE 80) 57 mtick1.avs mtick1.L [(0,17)] mtick1.nx) mtick1.v mtick1.L' mtick1.nx'=true:=by kernel_rfl
end Go.Proofs.YtgkhgapkfnkagaaGreatDoor
