/- The head of the laws of chapter 10, evaluated once. -/
import Derived.Test.YtdhehcalmjcpgaaDoorSx16
import Derived.Test.YtdhehcalmjcpgaaDoorSxW
namespace Go.Proofs.YtdhehcalmjcpgaaDoor
open Go Go.Sx
set_option maxRecDepth 100000

def wordsRow : SObj := .row wordsV 9 false true
/-- The head of the laws of chapter 10, as it was evaluated. -/
noncomputable def base10 : SCall := closedB 48 wordsRow

def isTrue : Option (Value × SHeap) → Bool
  | some (.bool b, _) => b
  | _ => false
theorem head10 : isTrue (callF Tryd.prog 200 48 [] heap0) = true := by kernel_rfl
theorem base10_ok : CallOK Tryd.prog base10 ∧ SnxOK base10 := by
  have h := head10
  unfold isTrue at h
  split at h
  · rename_i b h' hs
    cases h
    exact closedB_ok progOK_prog globs (by kernel_rfl) hs
  · cases h
end Go.Proofs.YtdhehcalmjcpgaaDoor
