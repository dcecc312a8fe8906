/- A span as a row's argument. -/
import Derived.Test.YtdnnjkneablfiaaGreatDoorSxSp0
import Derived.Test.YtdnnjkneablfiaaGreatDoorSxStay
import Derived.ChangeSame
import Derived.WideShapes
import Derived.WalkKit
namespace Go.Proofs.YtdnnjkneablfiaaGreatDoor
open Go Go.Sx Go.ChangeShapes Go.WideShapes Go.ChangeAt Go.RowKit
set_option maxRecDepth 100000

theorem cells23 : Tryz.prog.cellsOf 23 = 2 := by kernel_rfl
theorem cellsI : Tryz.prog.cellsOf 3 = 1 := by kernel_rfl
theorem open_span {H : Type} {enc : TypeId × Value → H} {W : World} {base : Nat} {v : Value} {d : DataW H} {p : List MemPlace} (hval : Value.okWide Tryz.prog W .any base 23 v) (h : DataW.Trod enc Tryz.prog W 0 (fun _ => true) true 23 v d p) :
    ∃ a b, v = spanV a b ∧ p = [] := by
  obtain ⟨cs, rfl, hs⟩ := okWide_struct Tryz.underlying23 hval
  obtain ⟨fuel, hf⟩ := h
  obtain ⟨y0, y1, n, hx, hl, h0, h1⟩ := trod_struct2 Tryz.underlying23 hf
  rw [cells23] at hs
  obtain ⟨x, y, rfl⟩ : ∃ x y, cs = #[x, y] := by
    obtain ⟨l⟩ := cs
    match l, hs with
    | [x, y], _ => exact ⟨x, y, rfl⟩
  have e : (Value.agg #[x, y]).cells.toList = [x, y] := rfl
  rw [e] at h0 h1
  simp only [cellsI, List.drop_zero, List.drop_succ_cons, List.take_succ_cons, List.take_zero] at h0 h1
  obtain ⟨a, ha, hx0, _⟩ := DataW.trod_int Tryz.underlying3 h0
  obtain ⟨b, hb, hx1, _⟩ := DataW.trod_int Tryz.underlying3 h1
  cases ha
  cases hb
  refine ⟨a, b, rfl, ?_⟩
  cases hx
  rw [hx0, hx1]
  rfl
end Go.Proofs.YtdnnjkneablfiaaGreatDoor
