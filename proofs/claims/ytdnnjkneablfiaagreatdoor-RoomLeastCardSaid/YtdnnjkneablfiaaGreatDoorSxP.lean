import Derived.Test.YtdnnjkneablfiaaGreatDoorSx15
import Derived.Test.YtdnnjkneablfiaaGreatDoorProg
namespace Go.Sx
open Go
set_option maxRecDepth 100000
theorem progOK_prog : progOK Go.Proofs.Tryz.prog = true := by kernel_rfl
end Go.Sx
