/- A call of the head of chapter 9, evaluated by itself. -/
import Derived.Test.YtdnnjkneablfiaaGreatDoorSxR6
namespace Go.Proofs.YtdnnjkneablfiaaGreatDoor
open Go Go.Sx
set_option maxRecDepth 100000

def ent46b : Ent := ⟨46, [(.agg #[(.string (bs [112])), (.slice (some ⟨615, 0, none⟩) 6 unk), (.slice (some ⟨620, 0, none⟩) 1 unk), (.slice none 0 0), (.slice none 0 0), (.slice none 0 0), (.slice (some ⟨622, 0, none⟩) 1 unk), (.int .i64 3)])], 825, [(0, wordsRow0), (615, (.row [(.int .i64 1), (.string (bs [112])), (.int .i64 0), (.int .i64 0), (.int .i64 2), (.int .i64 2), (.string (bs [113])), (.int .i64 0), (.int .i64 0), (.int .i64 0), (.int .i64 10), (.string (bs [])), (.int .i64 0), (.int .i64 0), (.int .i64 1), (.int .i64 11), (.string (bs [])), (.int .i64 0), (.int .i64 0), (.int .i64 2), (.int .i64 20), (.string (bs [113])), (.int .i64 1), (.int .i64 0), (.int .i64 0), (.int .i64 16), (.string (bs [113])), (.int .i64 0), (.int .i64 0), (.int .i64 0)] 84 true true)), (620, (.row [(.string (bs [113])), (.bool false)] 110 true true)), (622, (.row [(.int .i64 (-1))] 3 true true))], (.int .i64 0), []⟩
theorem ent46b_ok : ent46b.okF Tryz.prog (retS (callP Tryz.prog tabR6 600)) = true := by kernel_rfl
noncomputable def tabR7 : SCall := orS (entF ent46b) tabR6
theorem tabR7_ok (hP : progOK Tryz.prog = true) : CallOK Tryz.prog tabR7 ∧ SnxOK tabR7 :=
  have h := tabR6_ok hP
  orS_ok (entF_ok (retS_ok (callP_ok hP h.1 h.2 600).1) ent46b_ok) h
end Go.Proofs.YtdnnjkneablfiaaGreatDoor
