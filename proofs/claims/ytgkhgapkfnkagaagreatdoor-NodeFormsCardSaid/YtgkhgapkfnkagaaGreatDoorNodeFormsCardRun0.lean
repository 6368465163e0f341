/- NodeFormsCard: contracts. -/
import Derived.Test.YtgkhgapkfnkagaaGreatDoorNodeFormsCardCodC
import Derived.KernelRfl
set_option linter.unusedVariables false
set_option linter.unusedSimpArgs false
namespace Go.Proofs.YtgkhgapkfnkagaaGreatDoor
open Go.Ab Go.RowKit
set_option maxRecDepth 1000000
theorem ropen:evB (evE (cE 80) 5 mopen.avs mopen.L [] mopen.nx) mopen.v mopen.L' mopen.nx'=true:=by kernel_rfl
theorem rtx:evB (evE (cE 80) 15 mtx.avs mtx.L [] mtx.nx) mtx.v mtx.L' mtx.nx'=true:=by kernel_rfl
end Go.Proofs.YtgkhgapkfnkagaaGreatDoor
