/- A call of the head of chapter 9, evaluated by itself. -/
import Derived.Test.YtdnnjkneablfiaaGreatDoorSxR4
namespace Go.Proofs.YtdnnjkneablfiaaGreatDoor
open Go Go.Sx
set_option maxRecDepth 100000

def ent26b : Ent := ⟨26, [(.slice (some ⟨581, 0, none⟩) 6 unk)], 582, [(0, wordsRow0), (581, (.row [(.int .i64 1), (.string (bs [112])), (.int .i64 0), (.int .i64 0), (.int .i64 2), (.int .i64 2), (.string (bs [113])), (.int .i64 0), (.int .i64 0), (.int .i64 0), (.int .i64 10), (.string (bs [])), (.int .i64 0), (.int .i64 0), (.int .i64 1), (.int .i64 11), (.string (bs [])), (.int .i64 0), (.int .i64 0), (.int .i64 2), (.int .i64 20), (.string (bs [113])), (.int .i64 1), (.int .i64 0), (.int .i64 0), (.int .i64 16), (.string (bs [113])), (.int .i64 0), (.int .i64 0), (.int .i64 0)] 84 true true))], (.tuple #[(.agg #[(.string (bs [112])), (.slice (some ⟨615, 0, none⟩) 6 unk), (.slice (some ⟨620, 0, none⟩) 1 unk), (.slice none 0 0), (.slice none 0 0), (.slice none 0 0), (.slice (some ⟨622, 0, none⟩) 1 unk), (.int .i64 3)]), (.agg #[(.int .i64 0), (.int .i64 0)])]), [.dead, .dead, .dead, .dead, .dead, .dead, .dead, .dead, .dead, .dead, .dead, .dead, .dead, .dead, .dead, .dead, .dead, .dead, .dead, .dead, .dead, .dead, .dead, .dead, .dead, .dead, .dead, .dead, .dead, .dead, .dead, .dead, .dead, (.row [(.int .i64 1), (.string (bs [112])), (.int .i64 0), (.int .i64 0), (.int .i64 2), (.int .i64 2), (.string (bs [113])), (.int .i64 0), (.int .i64 0), (.int .i64 0), (.int .i64 10), (.string (bs [])), (.int .i64 0), (.int .i64 0), (.int .i64 1), (.int .i64 11), (.string (bs [])), (.int .i64 0), (.int .i64 0), (.int .i64 2), (.int .i64 20), (.string (bs [113])), (.int .i64 1), (.int .i64 0), (.int .i64 0), (.int .i64 16), (.string (bs [113])), (.int .i64 0), (.int .i64 0), (.int .i64 0)] 84 true false), .dead, .dead, .dead, .dead, (.row [(.string (bs [113])), (.bool false)] 110 true false), .dead, (.row [(.int .i64 (-1))] 3 true false), .dead, .dead, .dead]⟩
theorem ent26b_ok : ent26b.ok (retS (callP Tryz.prog tabR4 600)) = true := by kernel_rfl
noncomputable def tabR5 : SCall := orS (entS ent26b) tabR4
theorem tabR5_ok (hP : progOK Tryz.prog = true) : CallOK Tryz.prog tabR5 ∧ SnxOK tabR5 :=
  have h := tabR4_ok hP
  orS_ok (entS_ok (retS_ok (callP_ok hP h.1 h.2 600).1) ent26b_ok) h
end Go.Proofs.YtdnnjkneablfiaaGreatDoor
