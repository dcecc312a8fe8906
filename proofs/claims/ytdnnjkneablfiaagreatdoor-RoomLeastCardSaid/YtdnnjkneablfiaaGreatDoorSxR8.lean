/- A call of the head of chapter 9, evaluated by itself. -/
import Derived.Test.YtdnnjkneablfiaaGreatDoorSxR7
namespace Go.Proofs.YtdnnjkneablfiaaGreatDoor
open Go Go.Sx
set_option maxRecDepth 100000

def ent24b : Ent := ⟨24, [(.agg #[(.string (bs [112])), (.slice (some ⟨615, 0, none⟩) 6 unk), (.slice (some ⟨620, 0, none⟩) 1 unk), (.slice none 0 0), (.slice none 0 0), (.slice none 0 0), (.slice (some ⟨622, 0, none⟩) 1 unk), (.int .i64 3)]), (.agg #[(.slice none 0 0), (.slice none 0 0), (.slice (some ⟨808, 0, none⟩) 6 6)]), (.agg #[(.int .i64 5), (.slice (some ⟨1, 0, none⟩) 1 1)])], 820, [(0, wordsRow0), (615, (.row [(.int .i64 1), (.string (bs [112])), (.int .i64 0), (.int .i64 0), (.int .i64 2), (.int .i64 2), (.string (bs [113])), (.int .i64 0), (.int .i64 0), (.int .i64 0), (.int .i64 10), (.string (bs [])), (.int .i64 0), (.int .i64 0), (.int .i64 1), (.int .i64 11), (.string (bs [])), (.int .i64 0), (.int .i64 0), (.int .i64 2), (.int .i64 20), (.string (bs [113])), (.int .i64 1), (.int .i64 0), (.int .i64 0), (.int .i64 16), (.string (bs [113])), (.int .i64 0), (.int .i64 0), (.int .i64 0)] 84 true true)), (620, (.row [(.string (bs [113])), (.bool false)] 110 true true)), (622, (.row [(.int .i64 (-1))] 3 true true)), (808, (.row [(.int .i64 0), (.int .i64 0), (.int .i64 0), (.int .i64 0), (.int .i64 0), (.int .i64 0)] 3 false true)), (1, (.row [(.int .i64 5)] 3 false true))], (.tuple #[(.slice none 0 0), (.agg #[(.int .i64 52), (.int .i64 4)])]), [.dead, .dead, .dead, .dead, .dead, .dead, .dead, .dead, .dead, .dead, .dead, .dead, .dead, .dead, .dead, .dead, .dead, .dead, .dead, .dead, .dead, .dead, .dead, .dead, .dead, .dead, .dead, .dead, .dead, .dead, .dead, .dead, .dead, .dead, .dead, .dead, .dead, .dead, .dead, .dead, .dead, .dead, .dead, .dead, .dead, .dead, .dead, .dead, .dead, .dead, .dead, .dead, .dead, .dead, .dead, .dead, .dead, .dead, .dead, .dead, .dead, .dead, .dead, .dead, .dead, .dead]⟩
theorem ent24b_ok : ent24b.ok (retS (callP Tryz.prog tabR7 600)) = true := by kernel_rfl
noncomputable def tabR8 : SCall := orS (entS ent24b) tabR7
theorem tabR8_ok (hP : progOK Tryz.prog = true) : CallOK Tryz.prog tabR8 ∧ SnxOK tabR8 :=
  have h := tabR7_ok hP
  orS_ok (entS_ok (retS_ok (callP_ok hP h.1 h.2 600).1) ent24b_ok) h
end Go.Proofs.YtdnnjkneablfiaaGreatDoor
