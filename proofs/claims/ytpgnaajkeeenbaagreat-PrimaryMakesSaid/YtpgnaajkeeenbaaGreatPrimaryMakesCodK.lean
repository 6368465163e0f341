/- PrimaryMakes: contracts. -/
import Derived.Test.YtpgnaajkeeenbaaGreatPrimaryMakesCodJ
set_option linter.unusedVariables false
set_option linter.unusedSimpArgs false
namespace Go.Proofs.YtpgnaajkeeenbaaGreat
open Go.Ab Go.RowKit Go.MapKept
attribute [local irreducible] ACalls AW ADraw Into fltB fnear
set_option maxRecDepth 100000
end Go.Proofs.YtpgnaajkeeenbaaGreat
namespace Go.Proofs.YtpgnaajkeeenbaaGreat
open Go Go.Ab Go.RowKit Go.Shelf
attribute [local go_sem] Oper.semAt_some
end Go.Proofs.YtpgnaajkeeenbaaGreat
namespace Go.Proofs.YtpgnaajkeeenbaaGreat
open Go.Ab Go.RowKit Go.MapKept
attribute [local irreducible] ACalls AW ADraw Into fltB fnear
set_option maxRecDepth 100000
end Go.Proofs.YtpgnaajkeeenbaaGreat
namespace Go.Proofs.YtpgnaajkeeenbaaGreat
open Go.Ab Go.RowKit Go.MapKept
attribute [local irreducible] ACalls AW ADraw Into fltB fnear
set_option maxRecDepth 100000
end Go.Proofs.YtpgnaajkeeenbaaGreat
namespace Go.Proofs.YtpgnaajkeeenbaaGreat
open Go.Ab Go.RowKit Go.MapKept
attribute [local irreducible] ACalls AW ADraw Into fltB fnear
set_option maxRecDepth 100000
end Go.Proofs.YtpgnaajkeeenbaaGreat
