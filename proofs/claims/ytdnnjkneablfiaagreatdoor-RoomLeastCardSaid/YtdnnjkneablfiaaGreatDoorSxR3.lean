/- A call of the head of chapter 9, evaluated by itself. -/
import Derived.Test.YtdnnjkneablfiaaGreatDoorSxR2
namespace Go.Proofs.YtdnnjkneablfiaaGreatDoor
open Go Go.Sx
set_option maxRecDepth 100000

def ent46a : Ent := ⟨46, [(.agg #[(.string (bs [112])), (.slice (some ⟨53, 0, none⟩) 9 unk), (.slice (some ⟨58, 0, none⟩) 1 unk), (.slice none 0 0), (.slice none 0 0), (.slice none 0 0), (.slice (some ⟨60, 0, none⟩) 1 unk), (.int .i64 3)])], 333, [(0, wordsRow0), (53, (.row [(.int .i64 1), (.string (bs [112])), (.int .i64 0), (.int .i64 0), (.int .i64 2), (.int .i64 2), (.string (bs [113])), (.int .i64 0), (.int .i64 0), (.int .i64 0), (.int .i64 10), (.string (bs [])), (.int .i64 0), (.int .i64 0), (.int .i64 1), (.int .i64 11), (.string (bs [])), (.int .i64 0), (.int .i64 0), (.int .i64 2), (.int .i64 12), (.string (bs [])), (.int .i64 0), (.int .i64 0), (.int .i64 2), (.int .i64 36), (.string (bs [113])), (.int .i64 0), (.int .i64 0), (.int .i64 0), (.int .i64 11), (.string (bs [])), (.int .i64 0), (.int .i64 0), (.int .i64 1), (.int .i64 20), (.string (bs [113])), (.int .i64 1), (.int .i64 0), (.int .i64 0), (.int .i64 16), (.string (bs [113])), (.int .i64 0), (.int .i64 0), (.int .i64 0)] 84 true true)), (58, (.row [(.string (bs [113])), (.bool false)] 110 true true)), (60, (.row [(.int .i64 (-1))] 3 true true))], (.int .i64 0), []⟩
theorem ent46a_ok : ent46a.okF Tryz.prog (retS (callP Tryz.prog tabR2 600)) = true := by kernel_rfl
noncomputable def tabR3 : SCall := orS (entF ent46a) tabR2
theorem tabR3_ok (hP : progOK Tryz.prog = true) : CallOK Tryz.prog tabR3 ∧ SnxOK tabR3 :=
  have h := tabR2_ok hP
  orS_ok (entF_ok (retS_ok (callP_ok hP h.1 h.2 600).1) ent46a_ok) h
end Go.Proofs.YtdnnjkneablfiaaGreatDoor
