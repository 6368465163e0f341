/- PrimaryExact: abstract runs. -/
import Derived.Test.YtolkmjfkkkiboaaGreatPrimaryExactLy21
set_option linter.all false
namespace Go.Ab
open Go.RowKit
end Go.Ab
namespace Go.Ab
theorem yQ {n:Int} (h : -9223372036854775808<=n/\n<9223372036854775808):IntKind.i64.wrap n=n:=by
 simp [IntKind.wrap,IntKind.bits,IntKind.signed];omega
end Go.Ab
