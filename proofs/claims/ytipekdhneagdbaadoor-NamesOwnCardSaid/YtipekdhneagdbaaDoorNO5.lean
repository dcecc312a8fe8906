/- Part 5 of what the claim leans on: 1 texts laid one behind another. -/
import Derived.Test.YtipekdhneagdbaaDoorNO4
import Derived.Test.YtipekdhneagdbaaDoorProg
namespace Go.Sx
open Go
set_option maxRecDepth 100000
set_option maxHeartbeats 64000000
theorem JG:NO Go.Proofs.Tryd.prog=true:=by kernel_rfl
end Go.Sx
