/- The reading with the head of chapter 9 ahead. -/
import Derived.Test.YtdnnjkneablfiaaGreatDoorSx17
import Derived.Test.YtdnnjkneablfiaaGreatDoorSxP
import Derived.Test.YtdnnjkneablfiaaGreatDoorSxRH
import Derived.Test.YtdnnjkneablfiaaGreatDoorSx22
namespace Go.Proofs.YtdnnjkneablfiaaGreatDoor
open Go Go.Sx
set_option maxRecDepth 100000

def wordsRow : SObj := .row wordsV 9 false true
noncomputable def base9 : SCall := closedB 7 wordsRow
theorem base9_ok : CallOK Tryz.prog base9 ∧ SnxOK base9 := by
  have h := head9
  unfold isTrueP at h
  split at h
  · rename_i b h' hs
    cases h
    have ht := tabR8_ok progOK_prog
    have hc := retS_ok (callP_ok progOK_prog ht.1 ht.2 600).1
    have hs' : retS (callP Tryz.prog tabR8 600) 7 [] heap0 = some (.bool true, h') := by
      unfold retS
      rw [hs]
    exact closedG_ok hc globs (by kernel_rfl) hs'
  · cases h
theorem base9_head {h : SHeap} (hg : h.get 0 = wordsRow) : base9 7 [] h = some (.bool true, h) := by
  unfold base9 closedB
  rw [if_pos ⟨rfl, rfl, hg⟩]
theorem base9_none {f : FuncId} {args : List Value} {h : SHeap} (hf : f ≠ 7) : base9 f args h = none := by
  unfold base9 closedB
  rw [if_neg (fun hc => hf hc.1)]
end Go.Proofs.YtdnnjkneablfiaaGreatDoor
