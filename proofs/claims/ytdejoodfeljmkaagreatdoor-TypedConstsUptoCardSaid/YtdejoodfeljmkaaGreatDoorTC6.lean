/- Part 6 of what the claim leans on: 1 texts laid one behind another. -/
import Derived.Test.YtdejoodfeljmkaaGreatDoorTC5
import Derived.Test.YtdejoodfeljmkaaGreatDoorProg
namespace Go.Sx
open Go
set_option maxRecDepth 100000
set_option maxHeartbeats 64000000
theorem J2f:J5Y Go.Proofs.Tryz.prog=true:=by kernel_rfl
end Go.Sx
