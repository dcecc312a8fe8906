import Derived.Test.YtdhehcalmjcpgaaDoorSx15
import Derived.Test.YtdhehcalmjcpgaaDoorProg
namespace Go.Sx
open Go
set_option maxRecDepth 100000
theorem progOK_prog : progOK Go.Proofs.Tryd.prog = true := by kernel_rfl
end Go.Sx
