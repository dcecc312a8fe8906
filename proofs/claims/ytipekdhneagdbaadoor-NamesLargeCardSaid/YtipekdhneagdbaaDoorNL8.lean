/- Part 8 of what the claim leans on: 1 texts laid one behind another. -/
import Derived.Test.YtipekdhneagdbaaDoorNL7
import Derived.Test.YtipekdhneagdbaaDoorRows
namespace Go.Proofs.YtipekdhneagdbaaDoor
open Go Go.Sx
set_option maxRecDepth 100000
def J2D : List (List UInt8) := [[112, 111, 108, 105, 99, 121], [113, 117, 101, 117, 101], [114, 101, 115, 105, 100, 101, 110, 116], [103, 104, 111, 115, 116], [118, 97, 114], [105, 110], [116, 97, 103], [114, 101, 113, 117, 105, 114, 101], [114, 117, 108, 101], [111, 110], [104, 105, 116], [109, 105, 115, 115], [105, 102], [101, 108, 115, 101], [108, 111, 111, 112], [119, 104, 105, 108, 101], [115, 101, 116], [109, 97, 114, 107], [105, 110, 115, 101, 114, 116], [109, 111, 118, 101], [102, 111, 114, 103, 101, 116], [115, 104, 105, 102, 116], [101, 118, 105, 99, 116], [116, 111], [100, 114, 111, 112], [99, 97, 108, 108], [112, 97, 115, 115], [102, 114, 111, 110, 116], [98, 97, 99, 107], [120], [116, 114, 117, 101], [102, 97, 108, 115, 101], [108, 101, 110], [99, 97, 112], [115, 105, 122, 101], [116, 111, 116, 97, 108], [101, 109, 112, 116, 121], [102, 117, 108, 108], [97, 116], [109, 105, 110], [109, 97, 120]]
def J5v : List Value := J2D.map fun z => Value.string ⟨z.toArray⟩
theorem JfI : Tryd.prog.globalNamed "winnow/lex.words" = some 0 := by kernel_rfl
theorem J7e : (Tryd.prog.globals[0]?).map (·.type) = some 145 := by kernel_rfl
theorem J7w : Tryd.prog.cellsOf 145 = 41 := by kernel_rfl
theorem JfP : Tryd.prog.cellsOf 9 = 1 := by kernel_rfl
theorem Jg1 : Tryd.prog.globals.size = 1 := by kernel_rfl
def Jfv : SHeap := ⟨1, 0, .node (.row J5v 9 false true) .leaf .leaf⟩
def map0 : Map := fun i => if i = 0 then some ⟨0, 0, 0, 0⟩ else none
theorem rel0 {W : World} (h : laidMetH Tryd.prog [("winnow/lex.words", Rows.laid_winnow_lex_words)] W) : Rel Tryd.prog map0 Jfv W ∧ ∀ i, ¬ wr (Jfv.get i) := by
 obtain ⟨CS, ty, fr, hb, hcs⟩ := J5Q (zs := J2D) (rest := []) JfI J7e Tryd.underlying145 Tryd.underlying9 JfP J7w h
 refine Jcz rfl (fun i hi => ?_) (fun g hg => ?_) (fun i hi => ?_)
 ·have : 1 ≤ i := hi
  unfold map0
  rw [if_neg (by omega)]
 ·rw [Jg1] at hg
  obtain rfl : g = 0 := by omega
  exact ⟨_, rfl, rfl, rfl⟩
 ·have hi' : i < 1 := hi
  obtain rfl : i = 0 := by omega
  refine ⟨J5v, 9, false, ⟨0, 0, 0, 0⟩, CS, ty, fr, rfl, rfl, hb, fun k v hv => ⟨v, ?_, ?_⟩⟩
  ·have : CS.toList[k]? = some v := by rw [hcs]; exact hv
   simpa using this
  ·have hm : v ∈ J5v := List.mem_of_getElem? hv
   obtain ⟨z, _, rfl⟩ := List.mem_map.1 hm
   exact .flat rfl
end Go.Proofs.YtipekdhneagdbaaDoor
