/- Spans (two numbers), by the shadow reading. -/
import Derived.Test.YtdnnjkneablfiaaGreatDoorSx18
import Derived.Test.YtdnnjkneablfiaaGreatDoorSx22
import Derived.Test.YtdnnjkneablfiaaGreatDoorProg
namespace Go.Proofs.YtdnnjkneablfiaaGreatDoor
open Go Go.Sx
set_option maxRecDepth 100000
set_option linter.unusedSimpArgs false
set_option linter.unusedVariables false

abbrev spanV (a b : Int) : Value := .agg #[.int .i64 a, .int .i64 b]
theorem sz23 : szOf Tryz.prog 23 = some 2 := by kernel_rfl
theorem agg23 : aggOf Tryz.prog 23 = some true := by kernel_rfl
theorem agg3 : aggOf Tryz.prog 3 = some false := by kernel_rfl
theorem sz3 : szOf Tryz.prog 3 = some 1 := by kernel_rfl
theorem zero23 : zeroOf Tryz.prog 23 = some (spanV 0 0) := by kernel_rfl
theorem globsN : Tryz.prog.globals.size ≤ 1 := by
  have : Tryz.prog.globals.size = 1 := by kernel_rfl
  omega

theorem cells_agg {cs : Array Value} : (Value.agg cs).cells = cs := rfl
theorem one_int {k : IntKind} {x : Int} : one (.int k x) = true := rfl
theorem all2_one {a b : Int} : ([Value.int .i64 a, Value.int .i64 b] : List Value).all one = true := rfl
theorem flat_span {a b : Int} : flat (spanV a b) = true := rfl
theorem push_next {h : SHeap} {o : SObj} : (h.push o).next = h.next + 1 := rfl
theorem push_floor {h : SHeap} {o : SObj} : (h.push o).floor = h.floor := rfl
theorem put_next {h : SHeap} {o : SObj} {i : Nat} : (h.put i o).next = h.next := rfl
theorem put_floor {h : SHeap} {o : SObj} {i : Nat} : (h.put i o).floor = h.floor := rfl
theorem dead_next {m f : Nat} : (deadH m f).next = m := rfl
theorem dead_floor {m f : Nat} : (deadH m f).floor = f := rfl
theorem get_push' {h : SHeap} {o : SObj} {i : Nat} : (h.push o).get i = if i = h.next then o else h.get i := by
  split
  · rename_i e; subst e; exact get_push_new
  · rename_i e; exact get_push e
theorem get_put' {h : SHeap} {o : SObj} {i j : Nat} : (h.put i o).get j = if j = i then (if i < h.next then o else .dead) else h.get j := by
  by_cases hi : i < h.next
  · split
    · rename_i e; subst e; exact get_put_same rfl hi
    · rename_i e; exact get_put_ne hi (Ne.symm e)
  · split
    · rename_i e; subst e; exact get_ge (by show h.next ≤ j; omega)
    · rename_i e
      by_cases hj : j < h.next
      · unfold SHeap.get SHeap.put
        simp only [hj, if_true]
        rw [OTr.get_set, if_neg e]
      · rw [get_ge (by show h.next ≤ j; omega), get_ge (by omega)]

theorem fl_pushE {h : SHeap} {o : SObj} {f : Nat} : (h.push o).fl f = (h.fl f).push o := rfl
theorem fl_putE {h : SHeap} {o : SObj} {i f : Nat} : (h.put i o).fl f = (h.fl f).put i o := rfl
theorem fl_dead {m f f' : Nat} : (deadH m f').fl f = deadH m f := rfl
theorem ahead_ptr {m id off : Nat} : Sx.ahead m (idOf (.pointer (some ⟨id, off, none⟩))) = decide (id < m) := rfl

/-- What is laid in an object, as a span; as a number; a span laid in it. -/
def ld23 : SObj → Option Value
  | .row cs _ _ _ => match cut cs 0 2 with
    | some l => some (.agg l.toArray)
    | none => none
  | _ => none
def ld3 (off : Nat) : SObj → Option Value
  | .row cs _ _ _ => cs[off]?
  | _ => none
noncomputable def st23 (h : SHeap) (id : Nat) (a b : Int) : SObj → Option SHeap
  | .row [_, _] ty g false => if h.floor ≤ id then some (h.put id (.row [.int .i64 a, .int .i64 b] ty g false)) else none
  | _ => storeS Tryz.prog h 23 (.pointer (some ⟨id, 0, none⟩)) (spanV a b)
theorem ld23_eq {h : SHeap} {id : Nat} : loadS Tryz.prog h 23 (.pointer (some ⟨id, 0, none⟩)) = ld23 (h.get id) := by
  simp only [loadS, agg23, sz23]
  cases h.get id <;> rfl
theorem ld3_eq {h : SHeap} {id off : Nat} : loadS Tryz.prog h 3 (.pointer (some ⟨id, off, none⟩)) = ld3 off (h.get id) := by
  simp only [loadS, agg3]
  cases h.get id <;> rfl
theorem st23_eq {h : SHeap} {id : Nat} {a b : Int} : storeS Tryz.prog h 23 (.pointer (some ⟨id, 0, none⟩)) (spanV a b) = st23 h id a b (h.get id) := by
  cases hg : h.get id with
  | dead => rfl
  | map _ => rfl
  | row cs ty g ro =>
    match cs, ro with
    | [c, d], false =>
      simp only [st23]
      split
      · rename_i hf
        simp [storeS, sz23, storeRow, hg, hf, lay, Value.cells, one]
      · rename_i hf
        simp [storeS, sz23, storeRow, hg, hf, lay, Value.cells, one]
    | [c, d], true => rfl
    | [], ro => rfl
    | [c], ro => rfl
    | c :: d :: e :: l, ro => rfl
theorem ld23_row {x y : Value} {ty : TypeId} {g ro : Bool} : ld23 (.row [x, y] ty g ro) = some (.agg #[x, y]) := rfl
theorem ld3_0 {x : Value} {l : List Value} {ty : TypeId} {g ro : Bool} : ld3 0 (.row (x :: l) ty g ro) = some x := rfl
theorem ld3_1 {x y : Value} {l : List Value} {ty : TypeId} {g ro : Bool} : ld3 1 (.row (x :: y :: l) ty g ro) = some y := rfl
theorem st23_row {h : SHeap} {id : Nat} {a b : Int} {x y : Value} {ty : TypeId} {g : Bool} : st23 h id a b (.row [x, y] ty g false) = if h.floor ≤ id then some (h.put id (.row [.int .i64 a, .int .i64 b] ty g false)) else none := rfl
theorem field_lo {id : Nat} : fieldAddrS Tryz.prog 23 (.pointer (some ⟨id, 0, none⟩)) 0 = some (.pointer (some ⟨id, 0, none⟩)) := by
  simp [fieldAddrS, Tryz.underlying23, sz3, Addr.add]
theorem field_hi {id : Nat} : fieldAddrS Tryz.prog 23 (.pointer (some ⟨id, 0, none⟩)) 1 = some (.pointer (some ⟨id, 1, none⟩)) := by
  simp [fieldAddrS, Tryz.underlying23, sz3, Addr.add]
theorem places23 : places Tryz.prog (match Tryz.prog.underlying 23 with | some (.struct fs) => fs.toList | _ => []) = some [(0, 1), (1, 1)] := by kernel_rfl
theorem build_span {a b : Int} : buildS Tryz.prog 23 [(0, .int .i64 a), (1, .int .i64 b)] = some (spanV a b) := by
  have h := places23
  rw [Tryz.underlying23] at h
  simp only at h
  simp only [buildS, zero23, flat_span, if_true, Tryz.underlying23, h]
  rfl
theorem build_lo {a : Int} : buildS Tryz.prog 23 [(0, .int .i64 a)] = some (spanV a 0) := by
  have h := places23
  rw [Tryz.underlying23] at h
  simp only at h
  simp only [buildS, zero23, flat_span, if_true, Tryz.underlying23, h]
  rfl
theorem build_none : buildS Tryz.prog 23 [] = some (spanV 0 0) := by
  have h := places23
  rw [Tryz.underlying23] at h
  simp only at h
  simp only [buildS, zero23, flat_span, if_true, Tryz.underlying23, h]
  rfl

end Go.Proofs.YtdnnjkneablfiaaGreatDoor
