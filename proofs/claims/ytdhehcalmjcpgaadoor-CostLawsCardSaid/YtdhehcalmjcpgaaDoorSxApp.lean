/- A list that is built by appends, one after another. -/
import Derived.Test.YtdhehcalmjcpgaaDoorSxLend
namespace Go.Proofs.YtdhehcalmjcpgaaDoor
open Go Go.Sx
set_option maxRecDepth 100000
set_option linter.unusedSimpArgs false
set_option linter.unusedVariables false

/-- A list of integers that is being built: no array yet, or one of its own, at m or later. -/
def Grown (m : Nat) (h : SHeap) (v : Value) (l : List Int) : Prop :=
  (l = [] ∧ v = .slice none 0 0) ∨ ∃ id, v = .slice (some ⟨id, 0, none⟩) l.length unk ∧ h.get id = .row (ints l) 3 true false ∧ m ≤ id
theorem Grown.ints {m : Nat} {h : SHeap} {v : Value} {l : List Int} (hg : Grown m h v l) : IntsAt h v l := by
  rcases hg with ⟨rfl, rfl⟩ | ⟨id, rfl, hg, hm⟩
  · exact ⟨none, 0, rfl, fun b hb => (by cases hb), fun k x hk => (by simp at hk)⟩
  · exact ⟨_, _, rfl, fun b hb => (by cases hb; rfl), fun k x hk => ⟨id, 0, _, _, _, _, rfl, hg, by rw [Nat.zero_add, ints_get, hk]; rfl⟩⟩

theorem grown_append {m : Nat} {h : SHeap} {v : Value} {l : List Int} {x : Int} (hv : Grown m h v l) (hw : wf h) (hf : h.floor ≤ m) (hm : m ≤ h.next) (hl : l.length < 1099511627776) :
    ∃ v' h', buildSliceS Tryd.prog h 28 1 [(0, .int .i64 x)] = some (.slice (some ⟨h.next, 0, none⟩) 1 1, h.push (.row [.int .i64 x] 3 false false)) ∧
      appendS Tryd.prog (h.push (.row [.int .i64 x] 3 false false)) 28 v (.slice (some ⟨h.next, 0, none⟩) 1 1) = some (v', h') ∧ Grown m h' v' (l ++ [x]) ∧ wf h' ∧ h'.floor = h.floor ∧ h.next ≤ h'.next ∧ ∀ i, i < m → h'.get i = h.get i := by
  have hbs : buildSliceS Tryd.prog h 28 1 [(0, .int .i64 x)] = some (.slice (some ⟨h.next, 0, none⟩) 1 1, h.push (.row [.int .i64 x] 3 false false)) := by
    have e5 : (Value.int .i64 0).cells = #[.int .i64 0] := rfl
    have e6 : (Value.int .i64 x).cells = #[.int .i64 x] := rfl
    simp [buildSliceS, Tryd.underlying28, sz3, zero3, flat, flat1, e5, e6, fillS, zeros, lay]
  have g1 := grew_push hw (.row [.int .i64 x] 3 false false)
  generalize h.push (.row [.int .i64 x] 3 false false) = h1 at hbs g1
  have hsrc : srcCells h1 1 1 (.slice (some ⟨h.next, 0, none⟩) 1 1) = some [.int .i64 x] := by
    simp [srcCells, g1.new, cut]
  have hz : (Value.int .i64 0).cells.size = 1 := rfl
  have hone : ([Value.int .i64 x] : List Value).all one = true := rfl
  have hnu : (0 : Nat) ≠ unk := by unfold unk; omega
  rcases hv with ⟨rfl, rfl⟩ | ⟨id, rfl, hg, hid⟩
  · refine ⟨.slice (some ⟨h1.next, 0, none⟩) 1 unk, h1.push (.row [.int .i64 x] 3 true false), hbs, ?_, .inr ⟨h1.next, rfl, ?_, by have := g1.nx; omega⟩, ?_, g1.fl, by have := g1.nx; show _ ≤ h1.next + 1; omega, fun i hi => ?_⟩
    · simp [appendS, Tryd.underlying28, sz3, by3, zero3, hz, hsrc, hone, hnu]
      rfl
    · exact get_push_new
    · exact len_push g1.wf
    · rw [get_push (by have := g1.nx; omega), g1.old i (by omega)]
  · have hidl := row_lt hg
    have hg1 : h1.get id = .row (Go.Proofs.YtdhehcalmjcpgaaDoor.ints l) 3 true false := by rw [g1.old id (by omega)]; exact hg
    have hcut : cut (Go.Proofs.YtdhehcalmjcpgaaDoor.ints l) 0 (l.length * 1) = some (Go.Proofs.YtdhehcalmjcpgaaDoor.ints l) := by
      simp [cut, Go.Proofs.YtdhehcalmjcpgaaDoor.ints]
      exact List.take_of_length_le (by simp)
    have hid1 : id < h1.next := by have := g1.nx; omega
    refine ⟨.slice (some ⟨h1.next, 0, none⟩) (l.length + 1) unk, (h1.put id .dead).push (.row (Go.Proofs.YtdhehcalmjcpgaaDoor.ints l ++ [.int .i64 x]) 3 true false), hbs, ?_, .inr ⟨h1.next, by simp, ?_, by have := g1.nx; omega⟩, ?_, g1.fl, by have := g1.nx; show _ ≤ h1.next + 1; omega, fun i hi => ?_⟩
    · have e1 : (l.length + 1) * 8 ≤ 140737488355328 := by omega
      have e2 : l.length + 1 ≤ 140737488355328 := by omega
      have e3 : h1.floor ≤ id := by rw [g1.fl]; omega
      have e4 : l.length ≤ unk := by unfold unk; omega
      have e5 : (h1.put id .dead).next = h1.next := rfl
      simp only [appendS, Tryd.underlying28, sz3, by3, zero3, hz, hsrc, hone, e1, e2, e3, e4, hg1, hcut, ints_one, decide_true, Bool.and_self, beq_self_eq_true, Nat.zero_lt_one, if_true, Nat.one_ne_zero, if_false]
    · have : (Go.Proofs.YtdhehcalmjcpgaaDoor.ints l ++ [.int .i64 x]) = Go.Proofs.YtdhehcalmjcpgaaDoor.ints (l ++ [x]) := by simp [Go.Proofs.YtdhehcalmjcpgaaDoor.ints]
      rw [this]
      exact get_push_new
    · exact len_push (len_put g1.wf)
    · rw [get_push (by show i ≠ h1.next; have := g1.nx; omega), get_put_ne hid1 (by omega), g1.old i (by omega)]
end Go.Proofs.YtdhehcalmjcpgaaDoor
