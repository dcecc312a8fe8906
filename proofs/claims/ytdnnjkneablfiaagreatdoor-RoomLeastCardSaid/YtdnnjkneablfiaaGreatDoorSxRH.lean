/- The head of the laws of chapter 9, evaluated once. -/
import Derived.Test.YtdnnjkneablfiaaGreatDoorSxR8
namespace Go.Proofs.YtdnnjkneablfiaaGreatDoor
open Go Go.Sx
set_option maxRecDepth 100000

def isTrueP : Option (Out × SHeap) → Bool
  | some (.ret (.bool b), _) => b
  | _ => false
theorem head9 : isTrueP (callP Tryz.prog tabR8 600 7 [] heap0) = true := by kernel_rfl
end Go.Proofs.YtdnnjkneablfiaaGreatDoor
