/- RoomOrders' answer, from the words alone. -/
import Derived.Test.YtdnnjkneablfiaaGreatDoorSxRO
import Derived.Test.YtdnnjkneablfiaaGreatDoorSxW
namespace Go.Proofs.YtdnnjkneablfiaaGreatDoor
open Go Go.Sx
set_option maxRecDepth 100000

theorem g9_none {f : FuncId} {args : List Value} {h : SHeap} (hf : f ≠ 7) (hd : D6 f args h = none) : G9 f args h = none := by unfold G9 orS; rw [base9_none hf]; exact hd
theorem orders_true (a1 a2 b1 b2 c1 c2 : Int) : ∃ h', callG Tryz.prog G9 4 5 [spanV a1 a2, spanV b1 b2, spanV c1 c2] heap0 = some (.bool true, h') := by
  rw [cg_body (g9_none (by decide) (lay_none (lay_none (D5none 5 rfl rfl rfl rfl _ _) rfl) rfl))]
  refine ofEx (orders_walk (snxG G9_ok 3) rfl rfl rfl (fun h hg => cg_up (g9_head hg)) (fun a b c d h => cg_up (g9_up (by decide) ?_)) (fun a b c d h => cg_up (g9_up (by decide) ?_)) (fun a b c d h => cg_up (g9_up (by decide) ?_))
    (fun a b c d h => cg_up (g9_up (by decide) ?_)) (fun a b c d h => cg_up (g9_up (by decide) ?_)) (fun a b c d h => cg_up (g9_up (by decide) ?_)))
  · exact lay_up (lay_up (lay_up (lay_up (d2_17 a b c d h))))
  · exact lay_up (lay_up (lay_up (lay_up (d2_19 a b c d h))))
  · exact lay_up (d5_8 a b c d h)
  · exact lay_up (d5_11 a b c d h)
  · exact lay_up (d5_13 a b c d h)
  · exact lay_up (d5_14 a b c d h)
end Go.Proofs.YtdnnjkneablfiaaGreatDoor
