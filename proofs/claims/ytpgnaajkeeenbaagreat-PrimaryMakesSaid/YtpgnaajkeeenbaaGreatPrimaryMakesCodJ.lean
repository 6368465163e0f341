/- PrimaryMakes: contracts. -/
import Derived.Test.YtpgnaajkeeenbaaGreatPrimaryMakesCodI
import Derived.Shelf.Spec.SlicesInsertGrow
set_option linter.unusedVariables false
set_option linter.unusedSimpArgs false
namespace Go.Proofs.YtpgnaajkeeenbaaGreat
open Go.Ab Go.RowKit Go.MapKept
attribute [local irreducible] ACalls AW ADraw Into fltB fnear
set_option maxRecDepth 100000
end Go.Proofs.YtpgnaajkeeenbaaGreat
namespace Go.Proofs.YtpgnaajkeeenbaaGreat
open Go Go.Ab Go.RowKit Go.Lib Go.Proofs Go.Shelf
set_option maxRecDepth 100000
end Go.Proofs.YtpgnaajkeeenbaaGreat
namespace Go.Proofs.YtpgnaajkeeenbaaGreat
open Go.Ab Go.RowKit Go.MapKept
attribute [local irreducible] ACalls AW ADraw Into fltB fnear
set_option maxRecDepth 100000
end Go.Proofs.YtpgnaajkeeenbaaGreat
