/- Calls that the head of chapter 9 makes often, evaluated by themselves: two names are no words. -/
import Derived.Test.YtdnnjkneablfiaaGreatDoorSxTab
import Derived.Test.YtdnnjkneablfiaaGreatDoorSx21
import Derived.Test.YtdnnjkneablfiaaGreatDoorSxW
namespace Go.Proofs.YtdnnjkneablfiaaGreatDoor
open Go Go.Sx
set_option maxRecDepth 100000

def wordsRow0 : SObj := .row wordsV 9 false true
def ent190p : Ent := ⟨190, [.string (bs [112])], 1, [], .bool false, []⟩
def ent190q : Ent := ⟨190, [.string (bs [113])], 1, [], .bool false, []⟩
def ent192p : Ent := ⟨192, [.string (bs [112])], 1, [(0, wordsRow0)], .bool false, []⟩
def ent192q : Ent := ⟨192, [.string (bs [113])], 1, [(0, wordsRow0)], .bool false, []⟩
theorem ent190p_ok : ent190p.okF Tryz.prog (callF Tryz.prog 600) = true := by kernel_rfl
theorem ent190q_ok : ent190q.okF Tryz.prog (callF Tryz.prog 600) = true := by kernel_rfl
theorem ent192p_ok : ent192p.okF Tryz.prog (callF Tryz.prog 600) = true := by kernel_rfl
theorem ent192q_ok : ent192q.okF Tryz.prog (callF Tryz.prog 600) = true := by kernel_rfl
noncomputable def tabR0 : SCall := orS (entF ent190p) (orS (entF ent190q) (orS (entF ent192p) (entF ent192q)))
theorem tabR0_ok (hP : progOK Tryz.prog = true) : CallOK Tryz.prog tabR0 ∧ SnxOK tabR0 :=
  have h := (callF_ok hP 600).1
  orS_ok (entF_ok h ent190p_ok) (orS_ok (entF_ok h ent190q_ok) (orS_ok (entF_ok h ent192p_ok) (entF_ok h ent192q_ok)))
end Go.Proofs.YtdnnjkneablfiaaGreatDoor
