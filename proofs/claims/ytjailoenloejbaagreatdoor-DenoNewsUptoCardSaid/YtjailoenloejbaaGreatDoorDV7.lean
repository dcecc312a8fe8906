/- Part 7. -/
import Derived.Test.YtjailoenloejbaaGreatDoorDV6
import Derived.Test.YtjailoenloejbaaGreatDoorProg
namespace Go.Sx
open Go
set_option maxRecDepth 100000
set_option maxHeartbeats 0
theorem NA:M6 Go.Proofs.Tryz.prog=true:=by kernel_rfl
end Go.Sx



