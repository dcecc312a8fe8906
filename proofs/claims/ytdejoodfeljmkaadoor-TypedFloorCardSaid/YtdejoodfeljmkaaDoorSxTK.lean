/- The reading with the head of chapter 8 ahead. -/
import Derived.Test.YtdejoodfeljmkaaDoorSx17
import Derived.Test.YtdejoodfeljmkaaDoorSxP
import Derived.Test.YtdejoodfeljmkaaDoorSxTH
namespace Go.Proofs.YtdejoodfeljmkaaDoor
open Go Go.Sx
set_option maxRecDepth 100000

def wordsRow : SObj := .row wordsV 9 false true
noncomputable def base8 : SCall := closedB 8 wordsRow
theorem base8_ok : CallOK Tryd.prog base8 ∧ SnxOK base8 := by
  have h := head8
  unfold isTrue at h
  split at h
  · rename_i b h' hs
    cases h
    have ht := orS_ok (entS_ok (callF_ok progOK_prog 200).1 ent13_ok) (entF_ok (callF_ok progOK_prog 200).1 ent38_ok)
    exact closedG_ok (callG_ok progOK_prog ht.1 ht.2 200).1 globs (by kernel_rfl) hs
  · cases h
theorem base8_head {h : SHeap} (hg : h.get 0 = wordsRow) : base8 8 [] h = some (.bool true, h) := by
  unfold base8 closedB
  rw [if_pos ⟨rfl, rfl, hg⟩]
theorem base8_none {f : FuncId} {args : List Value} {h : SHeap} (hf : f ≠ 8) : base8 f args h = none := by
  unfold base8 closedB
  rw [if_neg (fun hc => hf hc.1)]
noncomputable def G (n : Nat) : SCall := fun f args h => callG Tryd.prog base8 n f args h
theorem G_at {n : Nat} {f : FuncId} {args : List Value} {h : SHeap} (hf : f ≠ 8) : G (n + 1) f args h = bodyF Tryd.prog (G n) n f args h := by
  unfold G
  simp only [callG, base8_none hf]
theorem G_head {n : Nat} {h : SHeap} (hg : h.get 0 = wordsRow) : G (n + 1) 8 [] h = some (.bool true, h) := by
  unfold G
  simp only [callG, base8_head hg]
end Go.Proofs.YtdejoodfeljmkaaDoor
