/- The head of the laws of chapter 8, evaluated once. -/
import Derived.Test.YtdejoodfeljmkaaDoorSxTE
namespace Go.Proofs.YtdejoodfeljmkaaDoor
open Go Go.Sx
set_option maxRecDepth 100000

def isTrue : Option (Value × SHeap) → Bool
  | some (.bool b, _) => b
  | _ => false
theorem head8 : isTrue (callG Tryd.prog tab8 200 8 [] heap0) = true := by kernel_rfl
end Go.Proofs.YtdejoodfeljmkaaDoor
