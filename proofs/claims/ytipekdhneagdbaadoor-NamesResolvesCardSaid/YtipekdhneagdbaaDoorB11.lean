/- Part 11 of what the claim leans on: 2 texts laid one behind another. -/
import Derived.Test.YtipekdhneagdbaaDoorB10
/- The program's check of one row and all of its own, walked. -/
namespace Go.Proofs.YtipekdhneagdbaaDoor
open Go Go.Sx
set_option maxRecDepth 100000
set_option linter.unusedSimpArgs false
set_option linter.unusedVariables false

noncomputable def J9n : Array Oper := J18 Tryd.f73 3
noncomputable def J0M : Array Oper := J18 Tryd.f73 4
def Jhv : List (Bool × Bool × List Operand) := [(true, true, []), (true, true, []), (true, true, []), (true, true, []), (false, true, [.tmp 31]), (false, true, [.tmp 31]), (false, true, [.tmp 31]), (false, true, [.tmp 31]), (false, true, [.tmp 31]), (false, true, [.tmp 31]), (true, true, [.tmp 31, .tmp 36]), (true, true, [.tmp 31, .tmp 36]), (false, false, []), (false, false, [])]
def J6P : List (Bool × Bool × List Operand) := [(false, true, []), (false, true, []), (false, true, []), (true, true, [.tmp 39]), (true, true, [.tmp 39]), (false, false, []), (false, false, []), (false, false, []), (false, false, []), (false, false, []), (false, false, []), (false, false, []), (false, false, []), (false, false, []), (false, false, []), (false, false, []), (false, false, []), (false, false, []), (false, false, []), (false, false, []), (false, false, []), (false, false, []), (false, false, []), (false, false, []), (false, false, []), (false, false, []), (false, false, []), (false, false, []), (false, false, []), (false, false, []), (false, false, []), (false, false, []), (false, false, []), (false, false, []), (false, false, []), (false, false, []), (false, false, []), (false, false, []), (false, false, []), (false, false, []), (false, false, []), (false, false, []), (false, false, []), (false, false, []), (false, false, []), (false, false, []), (false, false, []), (false, false, []), (false, false, [])]
theorem J8D : J1E J9n = Jhv := by kernel_rfl
theorem J8v : J1E J0M = J6P := by kernel_rfl

theorem J03 {T : Tr} {d t b : Nat} {v : Value} (hd : b ≤ d) (ht : t < b) : (T.put (some d) v).get t = T.get t := by
  rw [Tr.get_put, if_neg]
  intro e
  have : d = t := Option.some.inj e
  omega
section
variable {call : J0r} {n start a b : Nat} {T : Tr} {h : SHeap} {k : Kont} {x : RowN} {nm en nu : Bool} {le mo : Int} {ga0 gb0 : Bool}
  (hsn : J1G call) (t8 : T.get 8 = .pointer (some ⟨a, 0, none⟩)) (t9 : T.get 9 = .pointer (some ⟨b, 0, none⟩)) (ga : h.get a = .row [.int .i64 x.kind, .string x.name, .int .i64 x.ends, .int .i64 x.n, .int .i64 x.kids] 46 ga0 false)
  (gb : h.get b = .row [.bool nm, .bool en, .bool nu, .int .i64 le, .int .i64 mo] 123 gb0 false) (hb : (b < start) = True)
include hsn t8 t9 ga gb hb
set_option maxHeartbeats 16000000 in
theorem ph1 (h91 : ∀ h', h'.get 0 = h.get 0 → call 91 [.string x.name] h' = some (.bool (J09 x.name), h'))
    (hk : ∀ T', T'.get 54 = .bool ((J09 x.name == nm) && (nm || x.name == ⟨#[]⟩)) → (∀ t : Nat, t < 39 → T'.get t = T.get t) → WKF Tryd.prog call n J0M start (J6P.drop 16) (J0M.toList.drop 16) ⟨T', h⟩ k) : WKF Tryd.prog call n J0M start (J6P.drop 0) (J0M.toList.drop 0) ⟨T, h⟩ k := by
  have gd6 : (J0M[6]?).bind (·.dst) = some 45 := by kernel_rfl
  have gd9 : (J0M[9]?).bind (·.dst) = some 48 := by kernel_rfl
  have gd15 : (J0M[15]?).bind (·.dst) = some 54 := by kernel_rfl
  have gd19 : (J0M[19]?).bind (·.dst) = some 58 := by kernel_rfl
  have gd22 : (J0M[22]?).bind (·.dst) = some 61 := by kernel_rfl
  have gd29 : (J0M[29]?).bind (·.dst) = some 68 := by kernel_rfl
  have gd33 : (J0M[33]?).bind (·.dst) = some 72 := by kernel_rfl
  have gd36 : (J0M[36]?).bind (·.dst) = some 75 := by kernel_rfl
  have gd41 : (J0M[41]?).bind (·.dst) = some 80 := by kernel_rfl
  have h91' := fun f => h91 (h.fl f) rfl
  refine wst hsn 0 (some 39) (.fieldAddr 46 (.tmp 8) 1) (none) (by kernel_rfl) rfl ?_
  simp only [rgC, sop, ↓reduceIte, Nat.reduceEqDiff, reduceCtorEq, J04, J02, Nat.reduceAdd, WKFC, J07, gd6, gd9, gd15, gd19, gd22, gd29, gd33, gd36, gd41, t8, t9, ga, gb, hb, h91']
  refine wst hsn 1 (some 40) (.load 9 (.tmp 39)) (none) (by kernel_rfl) rfl ?_
  simp only [rgC, sop, ↓reduceIte, Nat.reduceEqDiff, reduceCtorEq, J04, J02, Nat.reduceAdd, WKFC, J0m, J0d, J1V, J0u, J1d, J2a, J2O, J2b, J2N, Nat.zero_add, J0f, decide_true, false_implies, forall_const, gd6, gd9, gd15, gd19, gd22, gd29, gd33, gd36, gd41, t8, t9, ga, gb, hb, h91']
  refine wst hsn 2 (some 41) (.call { callee := .value (.func 91), args := #[.tmp 40], argTypes := #[9] }) (none) (by kernel_rfl) rfl ?_
  simp only [rgC, sop, ↓reduceIte, Nat.reduceEqDiff, reduceCtorEq, J04, J02, Nat.reduceAdd, WKFC, J01, evs, rgK, gd6, gd9, gd15, gd19, gd22, gd29, gd33, gd36, gd41, t8, t9, ga, gb, hb, h91']
  refine wst hsn 3 (some 42) (.fieldAddr 123 (.tmp 9) 0) (none) (by kernel_rfl) rfl ?_
  simp only [rgC, sop, ↓reduceIte, Nat.reduceEqDiff, reduceCtorEq, J04, J02, Nat.reduceAdd, WKFC, J5B, gd6, gd9, gd15, gd19, gd22, gd29, gd33, gd36, gd41, t8, t9, ga, gb, hb, h91']
  refine wst hsn 4 (some 43) (.load 4 (.tmp 42)) (none) (by kernel_rfl) rfl ?_
  simp only [rgC, sop, ↓reduceIte, Nat.reduceEqDiff, reduceCtorEq, J04, J02, Nat.reduceAdd, WKFC, J0m, J0d, J1V, J0u, J1d, J2a, J2O, J2b, J2N, Nat.zero_add, J0f, decide_true, false_implies, forall_const, gd6, gd9, gd15, gd19, gd22, gd29, gd33, gd36, gd41, t8, t9, ga, gb, hb, h91']
  refine wst hsn 5 (some 44) (.binOp .eql 4 (.tmp 41) (.tmp 43) 4) (none) (by kernel_rfl) rfl ?_
  simp only [rgC, sop, ↓reduceIte, Nat.reduceEqDiff, reduceCtorEq, J04, J02, Nat.reduceAdd, WKFC, J24, J1y, J1C, J23, J21, J22, gd6, gd9, gd15, gd19, gd22, gd29, gd33, gd36, gd41, t8, t9, ga, gb, hb, h91']
  cases q1 : (J09 x.name == nm)
  · skip
    refine wst hsn 6 (some 45) (.move (.tmp 44)) (none) (by kernel_rfl) rfl ?_
    simp only [rgC, sop, ↓reduceIte, Nat.reduceEqDiff, reduceCtorEq, J04, J02, Nat.reduceAdd, WKFC, gd6, gd9, gd15, gd19, gd22, gd29, gd33, gd36, gd41, t8, t9, ga, gb, hb, h91', q1]
    refine wst hsn 7 (some 46) (.fieldAddr 123 (.tmp 9) 0) (some (6, true)) (by kernel_rfl) rfl ?_
    simp only [rgC, sop, ↓reduceIte, Nat.reduceEqDiff, reduceCtorEq, J04, J02, Nat.reduceAdd, WKFC, J5B, gd6, gd9, gd15, gd19, gd22, gd29, gd33, gd36, gd41, t8, t9, ga, gb, hb, h91', q1]
    refine wst hsn 8 (some 47) (.load 4 (.tmp 46)) (some (6, true)) (by kernel_rfl) rfl ?_
    simp only [rgC, sop, ↓reduceIte, Nat.reduceEqDiff, reduceCtorEq, J04, J02, Nat.reduceAdd, WKFC, J0m, J0d, J1V, J0u, J1d, J2a, J2O, J2b, J2N, Nat.zero_add, J0f, decide_true, false_implies, forall_const, gd6, gd9, gd15, gd19, gd22, gd29, gd33, gd36, gd41, t8, t9, ga, gb, hb, h91', q1]
    refine wst hsn 9 (some 48) (.move (.tmp 47)) (some (6, true)) (by kernel_rfl) rfl ?_
    simp only [rgC, sop, ↓reduceIte, Nat.reduceEqDiff, reduceCtorEq, J04, J02, Nat.reduceAdd, WKFC, gd6, gd9, gd15, gd19, gd22, gd29, gd33, gd36, gd41, t8, t9, ga, gb, hb, h91', q1]
    refine wst hsn 10 (some 49) (.fieldAddr 46 (.tmp 8) 1) (some (9, false)) (by kernel_rfl) rfl ?_
    simp only [rgC, sop, ↓reduceIte, Nat.reduceEqDiff, reduceCtorEq, J04, J02, Nat.reduceAdd, WKFC, J07, gd6, gd9, gd15, gd19, gd22, gd29, gd33, gd36, gd41, t8, t9, ga, gb, hb, h91', q1]
    refine wst hsn 11 (some 50) (.load 9 (.tmp 49)) (some (9, false)) (by kernel_rfl) rfl ?_
    simp only [rgC, sop, ↓reduceIte, Nat.reduceEqDiff, reduceCtorEq, J04, J02, Nat.reduceAdd, WKFC, J0m, J0d, J1V, J0u, J1d, J2a, J2O, J2b, J2N, Nat.zero_add, J0f, decide_true, false_implies, forall_const, gd6, gd9, gd15, gd19, gd22, gd29, gd33, gd36, gd41, t8, t9, ga, gb, hb, h91', q1]
    refine wst hsn 12 (some 51) (.binOp .eql 9 (.tmp 50) (.const (Value.string { data := #[] })) 9) (some (9, false)) (by kernel_rfl) rfl ?_
    simp only [rgC, sop, ↓reduceIte, Nat.reduceEqDiff, reduceCtorEq, J04, J02, Nat.reduceAdd, WKFC, J24, J1y, J1C, J23, J21, J22, gd6, gd9, gd15, gd19, gd22, gd29, gd33, gd36, gd41, t8, t9, ga, gb, hb, h91', q1]
    refine wst hsn 13 (some 52) (.pick (.tmp 48) (.const (Value.bool true)) (.tmp 51)) (some (6, true)) (by kernel_rfl) rfl ?_
    simp only [rgC, sop, ↓reduceIte, Nat.reduceEqDiff, reduceCtorEq, J04, J02, Nat.reduceAdd, WKFC, gd6, gd9, gd15, gd19, gd22, gd29, gd33, gd36, gd41, t8, t9, ga, gb, hb, h91', q1]
    refine wst hsn 14 (some 53) (.pick (.tmp 45) (.tmp 52) (.const (Value.bool false))) (none) (by kernel_rfl) rfl ?_
    simp only [rgC, sop, ↓reduceIte, Nat.reduceEqDiff, reduceCtorEq, J04, J02, Nat.reduceAdd, WKFC, gd6, gd9, gd15, gd19, gd22, gd29, gd33, gd36, gd41, t8, t9, ga, gb, hb, h91', q1]
    refine wst hsn 15 (some 54) (.move (.tmp 53)) (none) (by kernel_rfl) rfl ?_
    simp only [rgC, sop, ↓reduceIte, Nat.reduceEqDiff, reduceCtorEq, J04, J02, Nat.reduceAdd, WKFC, gd6, gd9, gd15, gd19, gd22, gd29, gd33, gd36, gd41, t8, t9, ga, gb, hb, h91', q1]
    refine hk _ ?_ ?_
    · simp only [Tr.get_put, if_true]; first | rfl | simp [*]
    · intro t ht
      rw [J03 (d := 54) (b := 39) (by decide) ht, J03 (d := 53) (b := 39) (by decide) ht, J03 (d := 52) (b := 39) (by decide) ht, J03 (d := 51) (b := 39) (by decide) ht, J03 (d := 50) (b := 39) (by decide) ht, J03 (d := 49) (b := 39) (by decide) ht, J03 (d := 48) (b := 39) (by decide) ht, J03 (d := 47) (b := 39) (by decide) ht, J03 (d := 46) (b := 39) (by decide) ht, J03 (d := 45) (b := 39) (by decide) ht, J03 (d := 44) (b := 39) (by decide) ht, J03 (d := 43) (b := 39) (by decide) ht, J03 (d := 42) (b := 39) (by decide) ht, J03 (d := 41) (b := 39) (by decide) ht, J03 (d := 40) (b := 39) (by decide) ht, J03 (d := 39) (b := 39) (by decide) ht]
  · skip
    refine wst hsn 6 (some 45) (.move (.tmp 44)) (none) (by kernel_rfl) rfl ?_
    simp only [rgC, sop, ↓reduceIte, Nat.reduceEqDiff, reduceCtorEq, J04, J02, Nat.reduceAdd, WKFC, gd6, gd9, gd15, gd19, gd22, gd29, gd33, gd36, gd41, t8, t9, ga, gb, hb, h91', q1]
    refine wst hsn 7 (some 46) (.fieldAddr 123 (.tmp 9) 0) (some (6, true)) (by kernel_rfl) rfl ?_
    simp only [rgC, sop, ↓reduceIte, Nat.reduceEqDiff, reduceCtorEq, J04, J02, Nat.reduceAdd, WKFC, J5B, gd6, gd9, gd15, gd19, gd22, gd29, gd33, gd36, gd41, t8, t9, ga, gb, hb, h91', q1]
    refine wst hsn 8 (some 47) (.load 4 (.tmp 46)) (some (6, true)) (by kernel_rfl) rfl ?_
    simp only [rgC, sop, ↓reduceIte, Nat.reduceEqDiff, reduceCtorEq, J04, J02, Nat.reduceAdd, WKFC, J0m, J0d, J1V, J0u, J1d, J2a, J2O, J2b, J2N, Nat.zero_add, J0f, decide_true, false_implies, forall_const, gd6, gd9, gd15, gd19, gd22, gd29, gd33, gd36, gd41, t8, t9, ga, gb, hb, h91', q1]
    refine wst hsn 9 (some 48) (.move (.tmp 47)) (some (6, true)) (by kernel_rfl) rfl ?_
    simp only [rgC, sop, ↓reduceIte, Nat.reduceEqDiff, reduceCtorEq, J04, J02, Nat.reduceAdd, WKFC, gd6, gd9, gd15, gd19, gd22, gd29, gd33, gd36, gd41, t8, t9, ga, gb, hb, h91', q1]
    cases nm
    · skip
      refine wst hsn 10 (some 49) (.fieldAddr 46 (.tmp 8) 1) (some (9, false)) (by kernel_rfl) rfl ?_
      simp only [rgC, sop, ↓reduceIte, Nat.reduceEqDiff, reduceCtorEq, J04, J02, Nat.reduceAdd, WKFC, J07, gd6, gd9, gd15, gd19, gd22, gd29, gd33, gd36, gd41, t8, t9, ga, gb, hb, h91', q1]
      refine wst hsn 11 (some 50) (.load 9 (.tmp 49)) (some (9, false)) (by kernel_rfl) rfl ?_
      simp only [rgC, sop, ↓reduceIte, Nat.reduceEqDiff, reduceCtorEq, J04, J02, Nat.reduceAdd, WKFC, J0m, J0d, J1V, J0u, J1d, J2a, J2O, J2b, J2N, Nat.zero_add, J0f, decide_true, false_implies, forall_const, gd6, gd9, gd15, gd19, gd22, gd29, gd33, gd36, gd41, t8, t9, ga, gb, hb, h91', q1]
      refine wst hsn 12 (some 51) (.binOp .eql 9 (.tmp 50) (.const (Value.string { data := #[] })) 9) (some (9, false)) (by kernel_rfl) rfl ?_
      simp only [rgC, sop, ↓reduceIte, Nat.reduceEqDiff, reduceCtorEq, J04, J02, Nat.reduceAdd, WKFC, J24, J1y, J1C, J23, J21, J22, gd6, gd9, gd15, gd19, gd22, gd29, gd33, gd36, gd41, t8, t9, ga, gb, hb, h91', q1]
      cases q3 : (x.name == ⟨#[]⟩)
      · skip
        refine wst hsn 13 (some 52) (.pick (.tmp 48) (.const (Value.bool true)) (.tmp 51)) (some (6, true)) (by kernel_rfl) rfl ?_
        simp only [rgC, sop, ↓reduceIte, Nat.reduceEqDiff, reduceCtorEq, J04, J02, Nat.reduceAdd, WKFC, gd6, gd9, gd15, gd19, gd22, gd29, gd33, gd36, gd41, t8, t9, ga, gb, hb, h91', q1, q3]
        refine wst hsn 14 (some 53) (.pick (.tmp 45) (.tmp 52) (.const (Value.bool false))) (none) (by kernel_rfl) rfl ?_
        simp only [rgC, sop, ↓reduceIte, Nat.reduceEqDiff, reduceCtorEq, J04, J02, Nat.reduceAdd, WKFC, gd6, gd9, gd15, gd19, gd22, gd29, gd33, gd36, gd41, t8, t9, ga, gb, hb, h91', q1, q3]
        refine wst hsn 15 (some 54) (.move (.tmp 53)) (none) (by kernel_rfl) rfl ?_
        simp only [rgC, sop, ↓reduceIte, Nat.reduceEqDiff, reduceCtorEq, J04, J02, Nat.reduceAdd, WKFC, gd6, gd9, gd15, gd19, gd22, gd29, gd33, gd36, gd41, t8, t9, ga, gb, hb, h91', q1, q3]
        refine hk _ ?_ ?_
        · simp only [Tr.get_put, if_true]; first | rfl | simp [*]
        · intro t ht
          rw [J03 (d := 54) (b := 39) (by decide) ht, J03 (d := 53) (b := 39) (by decide) ht, J03 (d := 52) (b := 39) (by decide) ht, J03 (d := 51) (b := 39) (by decide) ht, J03 (d := 50) (b := 39) (by decide) ht, J03 (d := 49) (b := 39) (by decide) ht, J03 (d := 48) (b := 39) (by decide) ht, J03 (d := 47) (b := 39) (by decide) ht, J03 (d := 46) (b := 39) (by decide) ht, J03 (d := 45) (b := 39) (by decide) ht, J03 (d := 44) (b := 39) (by decide) ht, J03 (d := 43) (b := 39) (by decide) ht, J03 (d := 42) (b := 39) (by decide) ht, J03 (d := 41) (b := 39) (by decide) ht, J03 (d := 40) (b := 39) (by decide) ht, J03 (d := 39) (b := 39) (by decide) ht]
      · skip
        refine wst hsn 13 (some 52) (.pick (.tmp 48) (.const (Value.bool true)) (.tmp 51)) (some (6, true)) (by kernel_rfl) rfl ?_
        simp only [rgC, sop, ↓reduceIte, Nat.reduceEqDiff, reduceCtorEq, J04, J02, Nat.reduceAdd, WKFC, gd6, gd9, gd15, gd19, gd22, gd29, gd33, gd36, gd41, t8, t9, ga, gb, hb, h91', q1, q3]
        refine wst hsn 14 (some 53) (.pick (.tmp 45) (.tmp 52) (.const (Value.bool false))) (none) (by kernel_rfl) rfl ?_
        simp only [rgC, sop, ↓reduceIte, Nat.reduceEqDiff, reduceCtorEq, J04, J02, Nat.reduceAdd, WKFC, gd6, gd9, gd15, gd19, gd22, gd29, gd33, gd36, gd41, t8, t9, ga, gb, hb, h91', q1, q3]
        refine wst hsn 15 (some 54) (.move (.tmp 53)) (none) (by kernel_rfl) rfl ?_
        simp only [rgC, sop, ↓reduceIte, Nat.reduceEqDiff, reduceCtorEq, J04, J02, Nat.reduceAdd, WKFC, gd6, gd9, gd15, gd19, gd22, gd29, gd33, gd36, gd41, t8, t9, ga, gb, hb, h91', q1, q3]
        refine hk _ ?_ ?_
        · simp only [Tr.get_put, if_true]; first | rfl | simp [*]
        · intro t ht
          rw [J03 (d := 54) (b := 39) (by decide) ht, J03 (d := 53) (b := 39) (by decide) ht, J03 (d := 52) (b := 39) (by decide) ht, J03 (d := 51) (b := 39) (by decide) ht, J03 (d := 50) (b := 39) (by decide) ht, J03 (d := 49) (b := 39) (by decide) ht, J03 (d := 48) (b := 39) (by decide) ht, J03 (d := 47) (b := 39) (by decide) ht, J03 (d := 46) (b := 39) (by decide) ht, J03 (d := 45) (b := 39) (by decide) ht, J03 (d := 44) (b := 39) (by decide) ht, J03 (d := 43) (b := 39) (by decide) ht, J03 (d := 42) (b := 39) (by decide) ht, J03 (d := 41) (b := 39) (by decide) ht, J03 (d := 40) (b := 39) (by decide) ht, J03 (d := 39) (b := 39) (by decide) ht]
    · skip
      refine wst hsn 10 (some 49) (.fieldAddr 46 (.tmp 8) 1) (some (9, false)) (by kernel_rfl) rfl ?_
      simp only [rgC, sop, ↓reduceIte, Nat.reduceEqDiff, reduceCtorEq, J04, J02, Nat.reduceAdd, WKFC, J07, gd6, gd9, gd15, gd19, gd22, gd29, gd33, gd36, gd41, t8, t9, ga, gb, hb, h91', q1]
      refine wst hsn 11 (some 50) (.load 9 (.tmp 49)) (some (9, false)) (by kernel_rfl) rfl ?_
      simp only [rgC, sop, ↓reduceIte, Nat.reduceEqDiff, reduceCtorEq, J04, J02, Nat.reduceAdd, WKFC, J0m, J0d, J1V, J0u, J1d, J2a, J2O, J2b, J2N, Nat.zero_add, J0f, decide_true, false_implies, forall_const, gd6, gd9, gd15, gd19, gd22, gd29, gd33, gd36, gd41, t8, t9, ga, gb, hb, h91', q1]
      refine wst hsn 12 (some 51) (.binOp .eql 9 (.tmp 50) (.const (Value.string { data := #[] })) 9) (some (9, false)) (by kernel_rfl) rfl ?_
      simp only [rgC, sop, ↓reduceIte, Nat.reduceEqDiff, reduceCtorEq, J04, J02, Nat.reduceAdd, WKFC, J24, J1y, J1C, J23, J21, J22, gd6, gd9, gd15, gd19, gd22, gd29, gd33, gd36, gd41, t8, t9, ga, gb, hb, h91', q1]
      refine wst hsn 13 (some 52) (.pick (.tmp 48) (.const (Value.bool true)) (.tmp 51)) (some (6, true)) (by kernel_rfl) rfl ?_
      simp only [rgC, sop, ↓reduceIte, Nat.reduceEqDiff, reduceCtorEq, J04, J02, Nat.reduceAdd, WKFC, gd6, gd9, gd15, gd19, gd22, gd29, gd33, gd36, gd41, t8, t9, ga, gb, hb, h91', q1]
      refine wst hsn 14 (some 53) (.pick (.tmp 45) (.tmp 52) (.const (Value.bool false))) (none) (by kernel_rfl) rfl ?_
      simp only [rgC, sop, ↓reduceIte, Nat.reduceEqDiff, reduceCtorEq, J04, J02, Nat.reduceAdd, WKFC, gd6, gd9, gd15, gd19, gd22, gd29, gd33, gd36, gd41, t8, t9, ga, gb, hb, h91', q1]
      refine wst hsn 15 (some 54) (.move (.tmp 53)) (none) (by kernel_rfl) rfl ?_
      simp only [rgC, sop, ↓reduceIte, Nat.reduceEqDiff, reduceCtorEq, J04, J02, Nat.reduceAdd, WKFC, gd6, gd9, gd15, gd19, gd22, gd29, gd33, gd36, gd41, t8, t9, ga, gb, hb, h91', q1]
      refine hk _ ?_ ?_
      · simp only [Tr.get_put, if_true]; first | rfl | simp [*]
      · intro t ht
        rw [J03 (d := 54) (b := 39) (by decide) ht, J03 (d := 53) (b := 39) (by decide) ht, J03 (d := 52) (b := 39) (by decide) ht, J03 (d := 51) (b := 39) (by decide) ht, J03 (d := 50) (b := 39) (by decide) ht, J03 (d := 49) (b := 39) (by decide) ht, J03 (d := 48) (b := 39) (by decide) ht, J03 (d := 47) (b := 39) (by decide) ht, J03 (d := 46) (b := 39) (by decide) ht, J03 (d := 45) (b := 39) (by decide) ht, J03 (d := 44) (b := 39) (by decide) ht, J03 (d := 43) (b := 39) (by decide) ht, J03 (d := 42) (b := 39) (by decide) ht, J03 (d := 41) (b := 39) (by decide) ht, J03 (d := 40) (b := 39) (by decide) ht, J03 (d := 39) (b := 39) (by decide) ht]
set_option maxHeartbeats 16000000 in
theorem ph2 {c : Bool} (t54 : T.get 54 = .bool c)
    (hk : ∀ T', T'.get 68 = .bool (c && (x.ends == 0 || en && x.ends == 1)) → (∀ t : Nat, t < 55 → T'.get t = T.get t) → WKF Tryd.prog call n J0M start (J6P.drop 30) (J0M.toList.drop 30) ⟨T', h⟩ k) : WKF Tryd.prog call n J0M start (J6P.drop 16) (J0M.toList.drop 16) ⟨T, h⟩ k := by
  have gd6 : (J0M[6]?).bind (·.dst) = some 45 := by kernel_rfl
  have gd9 : (J0M[9]?).bind (·.dst) = some 48 := by kernel_rfl
  have gd15 : (J0M[15]?).bind (·.dst) = some 54 := by kernel_rfl
  have gd19 : (J0M[19]?).bind (·.dst) = some 58 := by kernel_rfl
  have gd22 : (J0M[22]?).bind (·.dst) = some 61 := by kernel_rfl
  have gd29 : (J0M[29]?).bind (·.dst) = some 68 := by kernel_rfl
  have gd33 : (J0M[33]?).bind (·.dst) = some 72 := by kernel_rfl
  have gd36 : (J0M[36]?).bind (·.dst) = some 75 := by kernel_rfl
  have gd41 : (J0M[41]?).bind (·.dst) = some 80 := by kernel_rfl
  cases c
  · skip
    refine wst hsn 16 (some 55) (.fieldAddr 46 (.tmp 8) 2) (some (15, true)) (by kernel_rfl) rfl ?_
    simp only [rgC, sop, ↓reduceIte, Nat.reduceEqDiff, reduceCtorEq, J04, J02, Nat.reduceAdd, WKFC, J46, gd6, gd9, gd15, gd19, gd22, gd29, gd33, gd36, gd41, t8, t9, ga, gb, hb, t54]
    refine wst hsn 17 (some 56) (.load 3 (.tmp 55)) (some (15, true)) (by kernel_rfl) rfl ?_
    simp only [rgC, sop, ↓reduceIte, Nat.reduceEqDiff, reduceCtorEq, J04, J02, Nat.reduceAdd, WKFC, J0m, J0d, J1V, J0u, J1d, J2a, J2O, J2b, J2N, Nat.zero_add, J0f, decide_true, false_implies, forall_const, gd6, gd9, gd15, gd19, gd22, gd29, gd33, gd36, gd41, t8, t9, ga, gb, hb, t54]
    refine wst hsn 18 (some 57) (.binOp .eql 3 (.tmp 56) (.const (Value.int IntKind.i64 0)) 3) (some (15, true)) (by kernel_rfl) rfl ?_
    simp only [rgC, sop, ↓reduceIte, Nat.reduceEqDiff, reduceCtorEq, J04, J02, Nat.reduceAdd, WKFC, J24, J1y, J1C, J23, J21, J22, gd6, gd9, gd15, gd19, gd22, gd29, gd33, gd36, gd41, t8, t9, ga, gb, hb, t54]
    refine wst hsn 19 (some 58) (.move (.tmp 57)) (some (15, true)) (by kernel_rfl) rfl ?_
    simp only [rgC, sop, ↓reduceIte, Nat.reduceEqDiff, reduceCtorEq, J04, J02, Nat.reduceAdd, WKFC, gd6, gd9, gd15, gd19, gd22, gd29, gd33, gd36, gd41, t8, t9, ga, gb, hb, t54]
    refine wst hsn 20 (some 59) (.fieldAddr 123 (.tmp 9) 1) (some (19, false)) (by kernel_rfl) rfl ?_
    simp only [rgC, sop, ↓reduceIte, Nat.reduceEqDiff, reduceCtorEq, J04, J02, Nat.reduceAdd, WKFC, J5I, gd6, gd9, gd15, gd19, gd22, gd29, gd33, gd36, gd41, t8, t9, ga, gb, hb, t54]
    refine wst hsn 21 (some 60) (.load 4 (.tmp 59)) (some (19, false)) (by kernel_rfl) rfl ?_
    simp only [rgC, sop, ↓reduceIte, Nat.reduceEqDiff, reduceCtorEq, J04, J02, Nat.reduceAdd, WKFC, J0m, J0d, J1V, J0u, J1d, J2a, J2O, J2b, J2N, Nat.zero_add, J0f, decide_true, false_implies, forall_const, gd6, gd9, gd15, gd19, gd22, gd29, gd33, gd36, gd41, t8, t9, ga, gb, hb, t54]
    refine wst hsn 22 (some 61) (.move (.tmp 60)) (some (19, false)) (by kernel_rfl) rfl ?_
    simp only [rgC, sop, ↓reduceIte, Nat.reduceEqDiff, reduceCtorEq, J04, J02, Nat.reduceAdd, WKFC, gd6, gd9, gd15, gd19, gd22, gd29, gd33, gd36, gd41, t8, t9, ga, gb, hb, t54]
    refine wst hsn 23 (some 62) (.fieldAddr 46 (.tmp 8) 2) (some (22, true)) (by kernel_rfl) rfl ?_
    simp only [rgC, sop, ↓reduceIte, Nat.reduceEqDiff, reduceCtorEq, J04, J02, Nat.reduceAdd, WKFC, J46, gd6, gd9, gd15, gd19, gd22, gd29, gd33, gd36, gd41, t8, t9, ga, gb, hb, t54]
    refine wst hsn 24 (some 63) (.load 3 (.tmp 62)) (some (22, true)) (by kernel_rfl) rfl ?_
    simp only [rgC, sop, ↓reduceIte, Nat.reduceEqDiff, reduceCtorEq, J04, J02, Nat.reduceAdd, WKFC, J0m, J0d, J1V, J0u, J1d, J2a, J2O, J2b, J2N, Nat.zero_add, J0f, decide_true, false_implies, forall_const, gd6, gd9, gd15, gd19, gd22, gd29, gd33, gd36, gd41, t8, t9, ga, gb, hb, t54]
    refine wst hsn 25 (some 64) (.binOp .eql 3 (.tmp 63) (.const (Value.int IntKind.i64 1)) 3) (some (22, true)) (by kernel_rfl) rfl ?_
    simp only [rgC, sop, ↓reduceIte, Nat.reduceEqDiff, reduceCtorEq, J04, J02, Nat.reduceAdd, WKFC, J24, J1y, J1C, J23, J21, J22, gd6, gd9, gd15, gd19, gd22, gd29, gd33, gd36, gd41, t8, t9, ga, gb, hb, t54]
    refine wst hsn 26 (some 65) (.pick (.tmp 61) (.tmp 64) (.const (Value.bool false))) (some (19, false)) (by kernel_rfl) rfl ?_
    simp only [rgC, sop, ↓reduceIte, Nat.reduceEqDiff, reduceCtorEq, J04, J02, Nat.reduceAdd, WKFC, gd6, gd9, gd15, gd19, gd22, gd29, gd33, gd36, gd41, t8, t9, ga, gb, hb, t54]
    refine wst hsn 27 (some 66) (.pick (.tmp 58) (.const (Value.bool true)) (.tmp 65)) (some (15, true)) (by kernel_rfl) rfl ?_
    simp only [rgC, sop, ↓reduceIte, Nat.reduceEqDiff, reduceCtorEq, J04, J02, Nat.reduceAdd, WKFC, gd6, gd9, gd15, gd19, gd22, gd29, gd33, gd36, gd41, t8, t9, ga, gb, hb, t54]
    refine wst hsn 28 (some 67) (.pick (.tmp 54) (.tmp 66) (.const (Value.bool false))) (none) (by kernel_rfl) rfl ?_
    simp only [rgC, sop, ↓reduceIte, Nat.reduceEqDiff, reduceCtorEq, J04, J02, Nat.reduceAdd, WKFC, gd6, gd9, gd15, gd19, gd22, gd29, gd33, gd36, gd41, t8, t9, ga, gb, hb, t54]
    refine wst hsn 29 (some 68) (.move (.tmp 67)) (none) (by kernel_rfl) rfl ?_
    simp only [rgC, sop, ↓reduceIte, Nat.reduceEqDiff, reduceCtorEq, J04, J02, Nat.reduceAdd, WKFC, gd6, gd9, gd15, gd19, gd22, gd29, gd33, gd36, gd41, t8, t9, ga, gb, hb, t54]
    refine hk _ ?_ ?_
    · simp only [Tr.get_put, if_true]; first | rfl | simp [*]
    · intro t ht
      rw [J03 (d := 68) (b := 55) (by decide) ht, J03 (d := 67) (b := 55) (by decide) ht, J03 (d := 66) (b := 55) (by decide) ht, J03 (d := 65) (b := 55) (by decide) ht, J03 (d := 64) (b := 55) (by decide) ht, J03 (d := 63) (b := 55) (by decide) ht, J03 (d := 62) (b := 55) (by decide) ht, J03 (d := 61) (b := 55) (by decide) ht, J03 (d := 60) (b := 55) (by decide) ht, J03 (d := 59) (b := 55) (by decide) ht, J03 (d := 58) (b := 55) (by decide) ht, J03 (d := 57) (b := 55) (by decide) ht, J03 (d := 56) (b := 55) (by decide) ht, J03 (d := 55) (b := 55) (by decide) ht]
  · skip
    refine wst hsn 16 (some 55) (.fieldAddr 46 (.tmp 8) 2) (some (15, true)) (by kernel_rfl) rfl ?_
    simp only [rgC, sop, ↓reduceIte, Nat.reduceEqDiff, reduceCtorEq, J04, J02, Nat.reduceAdd, WKFC, J46, gd6, gd9, gd15, gd19, gd22, gd29, gd33, gd36, gd41, t8, t9, ga, gb, hb, t54]
    refine wst hsn 17 (some 56) (.load 3 (.tmp 55)) (some (15, true)) (by kernel_rfl) rfl ?_
    simp only [rgC, sop, ↓reduceIte, Nat.reduceEqDiff, reduceCtorEq, J04, J02, Nat.reduceAdd, WKFC, J0m, J0d, J1V, J0u, J1d, J2a, J2O, J2b, J2N, Nat.zero_add, J0f, decide_true, false_implies, forall_const, gd6, gd9, gd15, gd19, gd22, gd29, gd33, gd36, gd41, t8, t9, ga, gb, hb, t54]
    refine wst hsn 18 (some 57) (.binOp .eql 3 (.tmp 56) (.const (Value.int IntKind.i64 0)) 3) (some (15, true)) (by kernel_rfl) rfl ?_
    simp only [rgC, sop, ↓reduceIte, Nat.reduceEqDiff, reduceCtorEq, J04, J02, Nat.reduceAdd, WKFC, J24, J1y, J1C, J23, J21, J22, gd6, gd9, gd15, gd19, gd22, gd29, gd33, gd36, gd41, t8, t9, ga, gb, hb, t54]
    cases q1 : (x.ends == 0)
    · skip
      refine wst hsn 19 (some 58) (.move (.tmp 57)) (some (15, true)) (by kernel_rfl) rfl ?_
      simp only [rgC, sop, ↓reduceIte, Nat.reduceEqDiff, reduceCtorEq, J04, J02, Nat.reduceAdd, WKFC, gd6, gd9, gd15, gd19, gd22, gd29, gd33, gd36, gd41, t8, t9, ga, gb, hb, t54, q1]
      refine wst hsn 20 (some 59) (.fieldAddr 123 (.tmp 9) 1) (some (19, false)) (by kernel_rfl) rfl ?_
      simp only [rgC, sop, ↓reduceIte, Nat.reduceEqDiff, reduceCtorEq, J04, J02, Nat.reduceAdd, WKFC, J5I, gd6, gd9, gd15, gd19, gd22, gd29, gd33, gd36, gd41, t8, t9, ga, gb, hb, t54, q1]
      refine wst hsn 21 (some 60) (.load 4 (.tmp 59)) (some (19, false)) (by kernel_rfl) rfl ?_
      simp only [rgC, sop, ↓reduceIte, Nat.reduceEqDiff, reduceCtorEq, J04, J02, Nat.reduceAdd, WKFC, J0m, J0d, J1V, J0u, J1d, J2a, J2O, J2b, J2N, Nat.zero_add, J0f, decide_true, false_implies, forall_const, gd6, gd9, gd15, gd19, gd22, gd29, gd33, gd36, gd41, t8, t9, ga, gb, hb, t54, q1]
      refine wst hsn 22 (some 61) (.move (.tmp 60)) (some (19, false)) (by kernel_rfl) rfl ?_
      simp only [rgC, sop, ↓reduceIte, Nat.reduceEqDiff, reduceCtorEq, J04, J02, Nat.reduceAdd, WKFC, gd6, gd9, gd15, gd19, gd22, gd29, gd33, gd36, gd41, t8, t9, ga, gb, hb, t54, q1]
      cases en
      · skip
        refine wst hsn 23 (some 62) (.fieldAddr 46 (.tmp 8) 2) (some (22, true)) (by kernel_rfl) rfl ?_
        simp only [rgC, sop, ↓reduceIte, Nat.reduceEqDiff, reduceCtorEq, J04, J02, Nat.reduceAdd, WKFC, J46, gd6, gd9, gd15, gd19, gd22, gd29, gd33, gd36, gd41, t8, t9, ga, gb, hb, t54, q1]
        refine wst hsn 24 (some 63) (.load 3 (.tmp 62)) (some (22, true)) (by kernel_rfl) rfl ?_
        simp only [rgC, sop, ↓reduceIte, Nat.reduceEqDiff, reduceCtorEq, J04, J02, Nat.reduceAdd, WKFC, J0m, J0d, J1V, J0u, J1d, J2a, J2O, J2b, J2N, Nat.zero_add, J0f, decide_true, false_implies, forall_const, gd6, gd9, gd15, gd19, gd22, gd29, gd33, gd36, gd41, t8, t9, ga, gb, hb, t54, q1]
        refine wst hsn 25 (some 64) (.binOp .eql 3 (.tmp 63) (.const (Value.int IntKind.i64 1)) 3) (some (22, true)) (by kernel_rfl) rfl ?_
        simp only [rgC, sop, ↓reduceIte, Nat.reduceEqDiff, reduceCtorEq, J04, J02, Nat.reduceAdd, WKFC, J24, J1y, J1C, J23, J21, J22, gd6, gd9, gd15, gd19, gd22, gd29, gd33, gd36, gd41, t8, t9, ga, gb, hb, t54, q1]
        refine wst hsn 26 (some 65) (.pick (.tmp 61) (.tmp 64) (.const (Value.bool false))) (some (19, false)) (by kernel_rfl) rfl ?_
        simp only [rgC, sop, ↓reduceIte, Nat.reduceEqDiff, reduceCtorEq, J04, J02, Nat.reduceAdd, WKFC, gd6, gd9, gd15, gd19, gd22, gd29, gd33, gd36, gd41, t8, t9, ga, gb, hb, t54, q1]
        refine wst hsn 27 (some 66) (.pick (.tmp 58) (.const (Value.bool true)) (.tmp 65)) (some (15, true)) (by kernel_rfl) rfl ?_
        simp only [rgC, sop, ↓reduceIte, Nat.reduceEqDiff, reduceCtorEq, J04, J02, Nat.reduceAdd, WKFC, gd6, gd9, gd15, gd19, gd22, gd29, gd33, gd36, gd41, t8, t9, ga, gb, hb, t54, q1]
        refine wst hsn 28 (some 67) (.pick (.tmp 54) (.tmp 66) (.const (Value.bool false))) (none) (by kernel_rfl) rfl ?_
        simp only [rgC, sop, ↓reduceIte, Nat.reduceEqDiff, reduceCtorEq, J04, J02, Nat.reduceAdd, WKFC, gd6, gd9, gd15, gd19, gd22, gd29, gd33, gd36, gd41, t8, t9, ga, gb, hb, t54, q1]
        refine wst hsn 29 (some 68) (.move (.tmp 67)) (none) (by kernel_rfl) rfl ?_
        simp only [rgC, sop, ↓reduceIte, Nat.reduceEqDiff, reduceCtorEq, J04, J02, Nat.reduceAdd, WKFC, gd6, gd9, gd15, gd19, gd22, gd29, gd33, gd36, gd41, t8, t9, ga, gb, hb, t54, q1]
        refine hk _ ?_ ?_
        · simp only [Tr.get_put, if_true]; first | rfl | simp [*]
        · intro t ht
          rw [J03 (d := 68) (b := 55) (by decide) ht, J03 (d := 67) (b := 55) (by decide) ht, J03 (d := 66) (b := 55) (by decide) ht, J03 (d := 65) (b := 55) (by decide) ht, J03 (d := 64) (b := 55) (by decide) ht, J03 (d := 63) (b := 55) (by decide) ht, J03 (d := 62) (b := 55) (by decide) ht, J03 (d := 61) (b := 55) (by decide) ht, J03 (d := 60) (b := 55) (by decide) ht, J03 (d := 59) (b := 55) (by decide) ht, J03 (d := 58) (b := 55) (by decide) ht, J03 (d := 57) (b := 55) (by decide) ht, J03 (d := 56) (b := 55) (by decide) ht, J03 (d := 55) (b := 55) (by decide) ht]
      · skip
        refine wst hsn 23 (some 62) (.fieldAddr 46 (.tmp 8) 2) (some (22, true)) (by kernel_rfl) rfl ?_
        simp only [rgC, sop, ↓reduceIte, Nat.reduceEqDiff, reduceCtorEq, J04, J02, Nat.reduceAdd, WKFC, J46, gd6, gd9, gd15, gd19, gd22, gd29, gd33, gd36, gd41, t8, t9, ga, gb, hb, t54, q1]
        refine wst hsn 24 (some 63) (.load 3 (.tmp 62)) (some (22, true)) (by kernel_rfl) rfl ?_
        simp only [rgC, sop, ↓reduceIte, Nat.reduceEqDiff, reduceCtorEq, J04, J02, Nat.reduceAdd, WKFC, J0m, J0d, J1V, J0u, J1d, J2a, J2O, J2b, J2N, Nat.zero_add, J0f, decide_true, false_implies, forall_const, gd6, gd9, gd15, gd19, gd22, gd29, gd33, gd36, gd41, t8, t9, ga, gb, hb, t54, q1]
        refine wst hsn 25 (some 64) (.binOp .eql 3 (.tmp 63) (.const (Value.int IntKind.i64 1)) 3) (some (22, true)) (by kernel_rfl) rfl ?_
        simp only [rgC, sop, ↓reduceIte, Nat.reduceEqDiff, reduceCtorEq, J04, J02, Nat.reduceAdd, WKFC, J24, J1y, J1C, J23, J21, J22, gd6, gd9, gd15, gd19, gd22, gd29, gd33, gd36, gd41, t8, t9, ga, gb, hb, t54, q1]
        cases q3 : (x.ends == 1)
        · skip
          refine wst hsn 26 (some 65) (.pick (.tmp 61) (.tmp 64) (.const (Value.bool false))) (some (19, false)) (by kernel_rfl) rfl ?_
          simp only [rgC, sop, ↓reduceIte, Nat.reduceEqDiff, reduceCtorEq, J04, J02, Nat.reduceAdd, WKFC, gd6, gd9, gd15, gd19, gd22, gd29, gd33, gd36, gd41, t8, t9, ga, gb, hb, t54, q1, q3]
          refine wst hsn 27 (some 66) (.pick (.tmp 58) (.const (Value.bool true)) (.tmp 65)) (some (15, true)) (by kernel_rfl) rfl ?_
          simp only [rgC, sop, ↓reduceIte, Nat.reduceEqDiff, reduceCtorEq, J04, J02, Nat.reduceAdd, WKFC, gd6, gd9, gd15, gd19, gd22, gd29, gd33, gd36, gd41, t8, t9, ga, gb, hb, t54, q1, q3]
          refine wst hsn 28 (some 67) (.pick (.tmp 54) (.tmp 66) (.const (Value.bool false))) (none) (by kernel_rfl) rfl ?_
          simp only [rgC, sop, ↓reduceIte, Nat.reduceEqDiff, reduceCtorEq, J04, J02, Nat.reduceAdd, WKFC, gd6, gd9, gd15, gd19, gd22, gd29, gd33, gd36, gd41, t8, t9, ga, gb, hb, t54, q1, q3]
          refine wst hsn 29 (some 68) (.move (.tmp 67)) (none) (by kernel_rfl) rfl ?_
          simp only [rgC, sop, ↓reduceIte, Nat.reduceEqDiff, reduceCtorEq, J04, J02, Nat.reduceAdd, WKFC, gd6, gd9, gd15, gd19, gd22, gd29, gd33, gd36, gd41, t8, t9, ga, gb, hb, t54, q1, q3]
          refine hk _ ?_ ?_
          · simp only [Tr.get_put, if_true]; first | rfl | simp [*]
          · intro t ht
            rw [J03 (d := 68) (b := 55) (by decide) ht, J03 (d := 67) (b := 55) (by decide) ht, J03 (d := 66) (b := 55) (by decide) ht, J03 (d := 65) (b := 55) (by decide) ht, J03 (d := 64) (b := 55) (by decide) ht, J03 (d := 63) (b := 55) (by decide) ht, J03 (d := 62) (b := 55) (by decide) ht, J03 (d := 61) (b := 55) (by decide) ht, J03 (d := 60) (b := 55) (by decide) ht, J03 (d := 59) (b := 55) (by decide) ht, J03 (d := 58) (b := 55) (by decide) ht, J03 (d := 57) (b := 55) (by decide) ht, J03 (d := 56) (b := 55) (by decide) ht, J03 (d := 55) (b := 55) (by decide) ht]
        · skip
          refine wst hsn 26 (some 65) (.pick (.tmp 61) (.tmp 64) (.const (Value.bool false))) (some (19, false)) (by kernel_rfl) rfl ?_
          simp only [rgC, sop, ↓reduceIte, Nat.reduceEqDiff, reduceCtorEq, J04, J02, Nat.reduceAdd, WKFC, gd6, gd9, gd15, gd19, gd22, gd29, gd33, gd36, gd41, t8, t9, ga, gb, hb, t54, q1, q3]
          refine wst hsn 27 (some 66) (.pick (.tmp 58) (.const (Value.bool true)) (.tmp 65)) (some (15, true)) (by kernel_rfl) rfl ?_
          simp only [rgC, sop, ↓reduceIte, Nat.reduceEqDiff, reduceCtorEq, J04, J02, Nat.reduceAdd, WKFC, gd6, gd9, gd15, gd19, gd22, gd29, gd33, gd36, gd41, t8, t9, ga, gb, hb, t54, q1, q3]
          refine wst hsn 28 (some 67) (.pick (.tmp 54) (.tmp 66) (.const (Value.bool false))) (none) (by kernel_rfl) rfl ?_
          simp only [rgC, sop, ↓reduceIte, Nat.reduceEqDiff, reduceCtorEq, J04, J02, Nat.reduceAdd, WKFC, gd6, gd9, gd15, gd19, gd22, gd29, gd33, gd36, gd41, t8, t9, ga, gb, hb, t54, q1, q3]
          refine wst hsn 29 (some 68) (.move (.tmp 67)) (none) (by kernel_rfl) rfl ?_
          simp only [rgC, sop, ↓reduceIte, Nat.reduceEqDiff, reduceCtorEq, J04, J02, Nat.reduceAdd, WKFC, gd6, gd9, gd15, gd19, gd22, gd29, gd33, gd36, gd41, t8, t9, ga, gb, hb, t54, q1, q3]
          refine hk _ ?_ ?_
          · simp only [Tr.get_put, if_true]; first | rfl | simp [*]
          · intro t ht
            rw [J03 (d := 68) (b := 55) (by decide) ht, J03 (d := 67) (b := 55) (by decide) ht, J03 (d := 66) (b := 55) (by decide) ht, J03 (d := 65) (b := 55) (by decide) ht, J03 (d := 64) (b := 55) (by decide) ht, J03 (d := 63) (b := 55) (by decide) ht, J03 (d := 62) (b := 55) (by decide) ht, J03 (d := 61) (b := 55) (by decide) ht, J03 (d := 60) (b := 55) (by decide) ht, J03 (d := 59) (b := 55) (by decide) ht, J03 (d := 58) (b := 55) (by decide) ht, J03 (d := 57) (b := 55) (by decide) ht, J03 (d := 56) (b := 55) (by decide) ht, J03 (d := 55) (b := 55) (by decide) ht]
    · skip
      refine wst hsn 19 (some 58) (.move (.tmp 57)) (some (15, true)) (by kernel_rfl) rfl ?_
      simp only [rgC, sop, ↓reduceIte, Nat.reduceEqDiff, reduceCtorEq, J04, J02, Nat.reduceAdd, WKFC, gd6, gd9, gd15, gd19, gd22, gd29, gd33, gd36, gd41, t8, t9, ga, gb, hb, t54, q1]
      refine wst hsn 20 (some 59) (.fieldAddr 123 (.tmp 9) 1) (some (19, false)) (by kernel_rfl) rfl ?_
      simp only [rgC, sop, ↓reduceIte, Nat.reduceEqDiff, reduceCtorEq, J04, J02, Nat.reduceAdd, WKFC, J5I, gd6, gd9, gd15, gd19, gd22, gd29, gd33, gd36, gd41, t8, t9, ga, gb, hb, t54, q1]
      refine wst hsn 21 (some 60) (.load 4 (.tmp 59)) (some (19, false)) (by kernel_rfl) rfl ?_
      simp only [rgC, sop, ↓reduceIte, Nat.reduceEqDiff, reduceCtorEq, J04, J02, Nat.reduceAdd, WKFC, J0m, J0d, J1V, J0u, J1d, J2a, J2O, J2b, J2N, Nat.zero_add, J0f, decide_true, false_implies, forall_const, gd6, gd9, gd15, gd19, gd22, gd29, gd33, gd36, gd41, t8, t9, ga, gb, hb, t54, q1]
      refine wst hsn 22 (some 61) (.move (.tmp 60)) (some (19, false)) (by kernel_rfl) rfl ?_
      simp only [rgC, sop, ↓reduceIte, Nat.reduceEqDiff, reduceCtorEq, J04, J02, Nat.reduceAdd, WKFC, gd6, gd9, gd15, gd19, gd22, gd29, gd33, gd36, gd41, t8, t9, ga, gb, hb, t54, q1]
      refine wst hsn 23 (some 62) (.fieldAddr 46 (.tmp 8) 2) (some (22, true)) (by kernel_rfl) rfl ?_
      simp only [rgC, sop, ↓reduceIte, Nat.reduceEqDiff, reduceCtorEq, J04, J02, Nat.reduceAdd, WKFC, J46, gd6, gd9, gd15, gd19, gd22, gd29, gd33, gd36, gd41, t8, t9, ga, gb, hb, t54, q1]
      refine wst hsn 24 (some 63) (.load 3 (.tmp 62)) (some (22, true)) (by kernel_rfl) rfl ?_
      simp only [rgC, sop, ↓reduceIte, Nat.reduceEqDiff, reduceCtorEq, J04, J02, Nat.reduceAdd, WKFC, J0m, J0d, J1V, J0u, J1d, J2a, J2O, J2b, J2N, Nat.zero_add, J0f, decide_true, false_implies, forall_const, gd6, gd9, gd15, gd19, gd22, gd29, gd33, gd36, gd41, t8, t9, ga, gb, hb, t54, q1]
      refine wst hsn 25 (some 64) (.binOp .eql 3 (.tmp 63) (.const (Value.int IntKind.i64 1)) 3) (some (22, true)) (by kernel_rfl) rfl ?_
      simp only [rgC, sop, ↓reduceIte, Nat.reduceEqDiff, reduceCtorEq, J04, J02, Nat.reduceAdd, WKFC, J24, J1y, J1C, J23, J21, J22, gd6, gd9, gd15, gd19, gd22, gd29, gd33, gd36, gd41, t8, t9, ga, gb, hb, t54, q1]
      refine wst hsn 26 (some 65) (.pick (.tmp 61) (.tmp 64) (.const (Value.bool false))) (some (19, false)) (by kernel_rfl) rfl ?_
      simp only [rgC, sop, ↓reduceIte, Nat.reduceEqDiff, reduceCtorEq, J04, J02, Nat.reduceAdd, WKFC, gd6, gd9, gd15, gd19, gd22, gd29, gd33, gd36, gd41, t8, t9, ga, gb, hb, t54, q1]
      refine wst hsn 27 (some 66) (.pick (.tmp 58) (.const (Value.bool true)) (.tmp 65)) (some (15, true)) (by kernel_rfl) rfl ?_
      simp only [rgC, sop, ↓reduceIte, Nat.reduceEqDiff, reduceCtorEq, J04, J02, Nat.reduceAdd, WKFC, gd6, gd9, gd15, gd19, gd22, gd29, gd33, gd36, gd41, t8, t9, ga, gb, hb, t54, q1]
      refine wst hsn 28 (some 67) (.pick (.tmp 54) (.tmp 66) (.const (Value.bool false))) (none) (by kernel_rfl) rfl ?_
      simp only [rgC, sop, ↓reduceIte, Nat.reduceEqDiff, reduceCtorEq, J04, J02, Nat.reduceAdd, WKFC, gd6, gd9, gd15, gd19, gd22, gd29, gd33, gd36, gd41, t8, t9, ga, gb, hb, t54, q1]
      refine wst hsn 29 (some 68) (.move (.tmp 67)) (none) (by kernel_rfl) rfl ?_
      simp only [rgC, sop, ↓reduceIte, Nat.reduceEqDiff, reduceCtorEq, J04, J02, Nat.reduceAdd, WKFC, gd6, gd9, gd15, gd19, gd22, gd29, gd33, gd36, gd41, t8, t9, ga, gb, hb, t54, q1]
      refine hk _ ?_ ?_
      · simp only [Tr.get_put, if_true]; first | rfl | simp [*]
      · intro t ht
        rw [J03 (d := 68) (b := 55) (by decide) ht, J03 (d := 67) (b := 55) (by decide) ht, J03 (d := 66) (b := 55) (by decide) ht, J03 (d := 65) (b := 55) (by decide) ht, J03 (d := 64) (b := 55) (by decide) ht, J03 (d := 63) (b := 55) (by decide) ht, J03 (d := 62) (b := 55) (by decide) ht, J03 (d := 61) (b := 55) (by decide) ht, J03 (d := 60) (b := 55) (by decide) ht, J03 (d := 59) (b := 55) (by decide) ht, J03 (d := 58) (b := 55) (by decide) ht, J03 (d := 57) (b := 55) (by decide) ht, J03 (d := 56) (b := 55) (by decide) ht, J03 (d := 55) (b := 55) (by decide) ht]
set_option maxHeartbeats 16000000 in
theorem ph3 {c : Bool} (t68 : T.get 68 = .bool c)
    (hk : ∀ T', T'.get 10 = .bool (c && (x.n == 0 || nu && decide (x.n > 0) && decide (x.n ≤ 1073741824))) → (∀ t : Nat, t < 10 → T'.get t = T.get t) → WKF Tryd.prog call n J0M start (J6P.drop 49) (J0M.toList.drop 49) ⟨T', h⟩ k) : WKF Tryd.prog call n J0M start (J6P.drop 30) (J0M.toList.drop 30) ⟨T, h⟩ k := by
  have gd6 : (J0M[6]?).bind (·.dst) = some 45 := by kernel_rfl
  have gd9 : (J0M[9]?).bind (·.dst) = some 48 := by kernel_rfl
  have gd15 : (J0M[15]?).bind (·.dst) = some 54 := by kernel_rfl
  have gd19 : (J0M[19]?).bind (·.dst) = some 58 := by kernel_rfl
  have gd22 : (J0M[22]?).bind (·.dst) = some 61 := by kernel_rfl
  have gd29 : (J0M[29]?).bind (·.dst) = some 68 := by kernel_rfl
  have gd33 : (J0M[33]?).bind (·.dst) = some 72 := by kernel_rfl
  have gd36 : (J0M[36]?).bind (·.dst) = some 75 := by kernel_rfl
  have gd41 : (J0M[41]?).bind (·.dst) = some 80 := by kernel_rfl
  cases c
  · skip
    refine wst hsn 30 (some 69) (.fieldAddr 46 (.tmp 8) 3) (some (29, true)) (by kernel_rfl) rfl ?_
    simp only [rgC, sop, ↓reduceIte, Nat.reduceEqDiff, reduceCtorEq, J04, J02, Nat.reduceAdd, WKFC, J0O, gd6, gd9, gd15, gd19, gd22, gd29, gd33, gd36, gd41, t8, t9, ga, gb, hb, t68]
    refine wst hsn 31 (some 70) (.load 3 (.tmp 69)) (some (29, true)) (by kernel_rfl) rfl ?_
    simp only [rgC, sop, ↓reduceIte, Nat.reduceEqDiff, reduceCtorEq, J04, J02, Nat.reduceAdd, WKFC, J0m, J0d, J1V, J0u, J1d, J2a, J2O, J2b, J2N, Nat.zero_add, J0f, decide_true, false_implies, forall_const, gd6, gd9, gd15, gd19, gd22, gd29, gd33, gd36, gd41, t8, t9, ga, gb, hb, t68]
    refine wst hsn 32 (some 71) (.binOp .eql 3 (.tmp 70) (.const (Value.int IntKind.i64 0)) 3) (some (29, true)) (by kernel_rfl) rfl ?_
    simp only [rgC, sop, ↓reduceIte, Nat.reduceEqDiff, reduceCtorEq, J04, J02, Nat.reduceAdd, WKFC, J24, J1y, J1C, J23, J21, J22, gd6, gd9, gd15, gd19, gd22, gd29, gd33, gd36, gd41, t8, t9, ga, gb, hb, t68]
    refine wst hsn 33 (some 72) (.move (.tmp 71)) (some (29, true)) (by kernel_rfl) rfl ?_
    simp only [rgC, sop, ↓reduceIte, Nat.reduceEqDiff, reduceCtorEq, J04, J02, Nat.reduceAdd, WKFC, gd6, gd9, gd15, gd19, gd22, gd29, gd33, gd36, gd41, t8, t9, ga, gb, hb, t68]
    refine wst hsn 34 (some 73) (.fieldAddr 123 (.tmp 9) 2) (some (33, false)) (by kernel_rfl) rfl ?_
    simp only [rgC, sop, ↓reduceIte, Nat.reduceEqDiff, reduceCtorEq, J04, J02, Nat.reduceAdd, WKFC, J5G, gd6, gd9, gd15, gd19, gd22, gd29, gd33, gd36, gd41, t8, t9, ga, gb, hb, t68]
    refine wst hsn 35 (some 74) (.load 4 (.tmp 73)) (some (33, false)) (by kernel_rfl) rfl ?_
    simp only [rgC, sop, ↓reduceIte, Nat.reduceEqDiff, reduceCtorEq, J04, J02, Nat.reduceAdd, WKFC, J0m, J0d, J1V, J0u, J1d, J2a, J2O, J2b, J2N, Nat.zero_add, J0f, decide_true, false_implies, forall_const, gd6, gd9, gd15, gd19, gd22, gd29, gd33, gd36, gd41, t8, t9, ga, gb, hb, t68]
    refine wst hsn 36 (some 75) (.move (.tmp 74)) (some (33, false)) (by kernel_rfl) rfl ?_
    simp only [rgC, sop, ↓reduceIte, Nat.reduceEqDiff, reduceCtorEq, J04, J02, Nat.reduceAdd, WKFC, gd6, gd9, gd15, gd19, gd22, gd29, gd33, gd36, gd41, t8, t9, ga, gb, hb, t68]
    refine wst hsn 37 (some 76) (.fieldAddr 46 (.tmp 8) 3) (some (36, true)) (by kernel_rfl) rfl ?_
    simp only [rgC, sop, ↓reduceIte, Nat.reduceEqDiff, reduceCtorEq, J04, J02, Nat.reduceAdd, WKFC, J0O, gd6, gd9, gd15, gd19, gd22, gd29, gd33, gd36, gd41, t8, t9, ga, gb, hb, t68]
    refine wst hsn 38 (some 77) (.load 3 (.tmp 76)) (some (36, true)) (by kernel_rfl) rfl ?_
    simp only [rgC, sop, ↓reduceIte, Nat.reduceEqDiff, reduceCtorEq, J04, J02, Nat.reduceAdd, WKFC, J0m, J0d, J1V, J0u, J1d, J2a, J2O, J2b, J2N, Nat.zero_add, J0f, decide_true, false_implies, forall_const, gd6, gd9, gd15, gd19, gd22, gd29, gd33, gd36, gd41, t8, t9, ga, gb, hb, t68]
    refine wst hsn 39 (some 78) (.binOp .gtr 3 (.tmp 77) (.const (Value.int IntKind.i64 0)) 3) (some (36, true)) (by kernel_rfl) rfl ?_
    simp only [rgC, sop, ↓reduceIte, Nat.reduceEqDiff, reduceCtorEq, J04, J02, Nat.reduceAdd, WKFC, J24, J1y, J1C, J23, J21, J22, gd6, gd9, gd15, gd19, gd22, gd29, gd33, gd36, gd41, t8, t9, ga, gb, hb, t68]
    refine wst hsn 40 (some 79) (.pick (.tmp 75) (.tmp 78) (.const (Value.bool false))) (some (33, false)) (by kernel_rfl) rfl ?_
    simp only [rgC, sop, ↓reduceIte, Nat.reduceEqDiff, reduceCtorEq, J04, J02, Nat.reduceAdd, WKFC, gd6, gd9, gd15, gd19, gd22, gd29, gd33, gd36, gd41, t8, t9, ga, gb, hb, t68]
    refine wst hsn 41 (some 80) (.move (.tmp 79)) (some (33, false)) (by kernel_rfl) rfl ?_
    simp only [rgC, sop, ↓reduceIte, Nat.reduceEqDiff, reduceCtorEq, J04, J02, Nat.reduceAdd, WKFC, gd6, gd9, gd15, gd19, gd22, gd29, gd33, gd36, gd41, t8, t9, ga, gb, hb, t68]
    refine wst hsn 42 (some 81) (.fieldAddr 46 (.tmp 8) 3) (some (41, true)) (by kernel_rfl) rfl ?_
    simp only [rgC, sop, ↓reduceIte, Nat.reduceEqDiff, reduceCtorEq, J04, J02, Nat.reduceAdd, WKFC, J0O, gd6, gd9, gd15, gd19, gd22, gd29, gd33, gd36, gd41, t8, t9, ga, gb, hb, t68]
    refine wst hsn 43 (some 82) (.load 3 (.tmp 81)) (some (41, true)) (by kernel_rfl) rfl ?_
    simp only [rgC, sop, ↓reduceIte, Nat.reduceEqDiff, reduceCtorEq, J04, J02, Nat.reduceAdd, WKFC, J0m, J0d, J1V, J0u, J1d, J2a, J2O, J2b, J2N, Nat.zero_add, J0f, decide_true, false_implies, forall_const, gd6, gd9, gd15, gd19, gd22, gd29, gd33, gd36, gd41, t8, t9, ga, gb, hb, t68]
    refine wst hsn 44 (some 83) (.binOp .leq 3 (.tmp 82) (.const (Value.int IntKind.i64 1073741824)) 3) (some (41, true)) (by kernel_rfl) rfl ?_
    simp only [rgC, sop, ↓reduceIte, Nat.reduceEqDiff, reduceCtorEq, J04, J02, Nat.reduceAdd, WKFC, J24, J1y, J1C, J23, J21, J22, gd6, gd9, gd15, gd19, gd22, gd29, gd33, gd36, gd41, t8, t9, ga, gb, hb, t68]
    refine wst hsn 45 (some 84) (.pick (.tmp 80) (.tmp 83) (.const (Value.bool false))) (some (33, false)) (by kernel_rfl) rfl ?_
    simp only [rgC, sop, ↓reduceIte, Nat.reduceEqDiff, reduceCtorEq, J04, J02, Nat.reduceAdd, WKFC, gd6, gd9, gd15, gd19, gd22, gd29, gd33, gd36, gd41, t8, t9, ga, gb, hb, t68]
    refine wst hsn 46 (some 85) (.pick (.tmp 72) (.const (Value.bool true)) (.tmp 84)) (some (29, true)) (by kernel_rfl) rfl ?_
    simp only [rgC, sop, ↓reduceIte, Nat.reduceEqDiff, reduceCtorEq, J04, J02, Nat.reduceAdd, WKFC, gd6, gd9, gd15, gd19, gd22, gd29, gd33, gd36, gd41, t8, t9, ga, gb, hb, t68]
    refine wst hsn 47 (some 86) (.pick (.tmp 68) (.tmp 85) (.const (Value.bool false))) (none) (by kernel_rfl) rfl ?_
    simp only [rgC, sop, ↓reduceIte, Nat.reduceEqDiff, reduceCtorEq, J04, J02, Nat.reduceAdd, WKFC, gd6, gd9, gd15, gd19, gd22, gd29, gd33, gd36, gd41, t8, t9, ga, gb, hb, t68]
    refine wst hsn 48 (some 10) (.assign (.tmp 86)) (none) (by kernel_rfl) rfl ?_
    simp only [rgC, sop, ↓reduceIte, Nat.reduceEqDiff, reduceCtorEq, J04, J02, Nat.reduceAdd, WKFC, gd6, gd9, gd15, gd19, gd22, gd29, gd33, gd36, gd41, t8, t9, ga, gb, hb, t68]
    refine hk _ ?_ ?_
    · simp only [Tr.get_put, if_true]; first | rfl | simp [*]
    · intro t ht
      rw [J03 (d := 10) (b := 10) (by decide) ht, J03 (d := 86) (b := 10) (by decide) ht, J03 (d := 85) (b := 10) (by decide) ht, J03 (d := 84) (b := 10) (by decide) ht, J03 (d := 83) (b := 10) (by decide) ht, J03 (d := 82) (b := 10) (by decide) ht, J03 (d := 81) (b := 10) (by decide) ht, J03 (d := 80) (b := 10) (by decide) ht, J03 (d := 79) (b := 10) (by decide) ht, J03 (d := 78) (b := 10) (by decide) ht, J03 (d := 77) (b := 10) (by decide) ht, J03 (d := 76) (b := 10) (by decide) ht, J03 (d := 75) (b := 10) (by decide) ht, J03 (d := 74) (b := 10) (by decide) ht, J03 (d := 73) (b := 10) (by decide) ht, J03 (d := 72) (b := 10) (by decide) ht, J03 (d := 71) (b := 10) (by decide) ht, J03 (d := 70) (b := 10) (by decide) ht, J03 (d := 69) (b := 10) (by decide) ht]
  · skip
    refine wst hsn 30 (some 69) (.fieldAddr 46 (.tmp 8) 3) (some (29, true)) (by kernel_rfl) rfl ?_
    simp only [rgC, sop, ↓reduceIte, Nat.reduceEqDiff, reduceCtorEq, J04, J02, Nat.reduceAdd, WKFC, J0O, gd6, gd9, gd15, gd19, gd22, gd29, gd33, gd36, gd41, t8, t9, ga, gb, hb, t68]
    refine wst hsn 31 (some 70) (.load 3 (.tmp 69)) (some (29, true)) (by kernel_rfl) rfl ?_
    simp only [rgC, sop, ↓reduceIte, Nat.reduceEqDiff, reduceCtorEq, J04, J02, Nat.reduceAdd, WKFC, J0m, J0d, J1V, J0u, J1d, J2a, J2O, J2b, J2N, Nat.zero_add, J0f, decide_true, false_implies, forall_const, gd6, gd9, gd15, gd19, gd22, gd29, gd33, gd36, gd41, t8, t9, ga, gb, hb, t68]
    refine wst hsn 32 (some 71) (.binOp .eql 3 (.tmp 70) (.const (Value.int IntKind.i64 0)) 3) (some (29, true)) (by kernel_rfl) rfl ?_
    simp only [rgC, sop, ↓reduceIte, Nat.reduceEqDiff, reduceCtorEq, J04, J02, Nat.reduceAdd, WKFC, J24, J1y, J1C, J23, J21, J22, gd6, gd9, gd15, gd19, gd22, gd29, gd33, gd36, gd41, t8, t9, ga, gb, hb, t68]
    cases q1 : (x.n == 0)
    · skip
      refine wst hsn 33 (some 72) (.move (.tmp 71)) (some (29, true)) (by kernel_rfl) rfl ?_
      simp only [rgC, sop, ↓reduceIte, Nat.reduceEqDiff, reduceCtorEq, J04, J02, Nat.reduceAdd, WKFC, gd6, gd9, gd15, gd19, gd22, gd29, gd33, gd36, gd41, t8, t9, ga, gb, hb, t68, q1]
      refine wst hsn 34 (some 73) (.fieldAddr 123 (.tmp 9) 2) (some (33, false)) (by kernel_rfl) rfl ?_
      simp only [rgC, sop, ↓reduceIte, Nat.reduceEqDiff, reduceCtorEq, J04, J02, Nat.reduceAdd, WKFC, J5G, gd6, gd9, gd15, gd19, gd22, gd29, gd33, gd36, gd41, t8, t9, ga, gb, hb, t68, q1]
      refine wst hsn 35 (some 74) (.load 4 (.tmp 73)) (some (33, false)) (by kernel_rfl) rfl ?_
      simp only [rgC, sop, ↓reduceIte, Nat.reduceEqDiff, reduceCtorEq, J04, J02, Nat.reduceAdd, WKFC, J0m, J0d, J1V, J0u, J1d, J2a, J2O, J2b, J2N, Nat.zero_add, J0f, decide_true, false_implies, forall_const, gd6, gd9, gd15, gd19, gd22, gd29, gd33, gd36, gd41, t8, t9, ga, gb, hb, t68, q1]
      refine wst hsn 36 (some 75) (.move (.tmp 74)) (some (33, false)) (by kernel_rfl) rfl ?_
      simp only [rgC, sop, ↓reduceIte, Nat.reduceEqDiff, reduceCtorEq, J04, J02, Nat.reduceAdd, WKFC, gd6, gd9, gd15, gd19, gd22, gd29, gd33, gd36, gd41, t8, t9, ga, gb, hb, t68, q1]
      cases nu
      · skip
        refine wst hsn 37 (some 76) (.fieldAddr 46 (.tmp 8) 3) (some (36, true)) (by kernel_rfl) rfl ?_
        simp only [rgC, sop, ↓reduceIte, Nat.reduceEqDiff, reduceCtorEq, J04, J02, Nat.reduceAdd, WKFC, J0O, gd6, gd9, gd15, gd19, gd22, gd29, gd33, gd36, gd41, t8, t9, ga, gb, hb, t68, q1]
        refine wst hsn 38 (some 77) (.load 3 (.tmp 76)) (some (36, true)) (by kernel_rfl) rfl ?_
        simp only [rgC, sop, ↓reduceIte, Nat.reduceEqDiff, reduceCtorEq, J04, J02, Nat.reduceAdd, WKFC, J0m, J0d, J1V, J0u, J1d, J2a, J2O, J2b, J2N, Nat.zero_add, J0f, decide_true, false_implies, forall_const, gd6, gd9, gd15, gd19, gd22, gd29, gd33, gd36, gd41, t8, t9, ga, gb, hb, t68, q1]
        refine wst hsn 39 (some 78) (.binOp .gtr 3 (.tmp 77) (.const (Value.int IntKind.i64 0)) 3) (some (36, true)) (by kernel_rfl) rfl ?_
        simp only [rgC, sop, ↓reduceIte, Nat.reduceEqDiff, reduceCtorEq, J04, J02, Nat.reduceAdd, WKFC, J24, J1y, J1C, J23, J21, J22, gd6, gd9, gd15, gd19, gd22, gd29, gd33, gd36, gd41, t8, t9, ga, gb, hb, t68, q1]
        refine wst hsn 40 (some 79) (.pick (.tmp 75) (.tmp 78) (.const (Value.bool false))) (some (33, false)) (by kernel_rfl) rfl ?_
        simp only [rgC, sop, ↓reduceIte, Nat.reduceEqDiff, reduceCtorEq, J04, J02, Nat.reduceAdd, WKFC, gd6, gd9, gd15, gd19, gd22, gd29, gd33, gd36, gd41, t8, t9, ga, gb, hb, t68, q1]
        refine wst hsn 41 (some 80) (.move (.tmp 79)) (some (33, false)) (by kernel_rfl) rfl ?_
        simp only [rgC, sop, ↓reduceIte, Nat.reduceEqDiff, reduceCtorEq, J04, J02, Nat.reduceAdd, WKFC, gd6, gd9, gd15, gd19, gd22, gd29, gd33, gd36, gd41, t8, t9, ga, gb, hb, t68, q1]
        refine wst hsn 42 (some 81) (.fieldAddr 46 (.tmp 8) 3) (some (41, true)) (by kernel_rfl) rfl ?_
        simp only [rgC, sop, ↓reduceIte, Nat.reduceEqDiff, reduceCtorEq, J04, J02, Nat.reduceAdd, WKFC, J0O, gd6, gd9, gd15, gd19, gd22, gd29, gd33, gd36, gd41, t8, t9, ga, gb, hb, t68, q1]
        refine wst hsn 43 (some 82) (.load 3 (.tmp 81)) (some (41, true)) (by kernel_rfl) rfl ?_
        simp only [rgC, sop, ↓reduceIte, Nat.reduceEqDiff, reduceCtorEq, J04, J02, Nat.reduceAdd, WKFC, J0m, J0d, J1V, J0u, J1d, J2a, J2O, J2b, J2N, Nat.zero_add, J0f, decide_true, false_implies, forall_const, gd6, gd9, gd15, gd19, gd22, gd29, gd33, gd36, gd41, t8, t9, ga, gb, hb, t68, q1]
        refine wst hsn 44 (some 83) (.binOp .leq 3 (.tmp 82) (.const (Value.int IntKind.i64 1073741824)) 3) (some (41, true)) (by kernel_rfl) rfl ?_
        simp only [rgC, sop, ↓reduceIte, Nat.reduceEqDiff, reduceCtorEq, J04, J02, Nat.reduceAdd, WKFC, J24, J1y, J1C, J23, J21, J22, gd6, gd9, gd15, gd19, gd22, gd29, gd33, gd36, gd41, t8, t9, ga, gb, hb, t68, q1]
        refine wst hsn 45 (some 84) (.pick (.tmp 80) (.tmp 83) (.const (Value.bool false))) (some (33, false)) (by kernel_rfl) rfl ?_
        simp only [rgC, sop, ↓reduceIte, Nat.reduceEqDiff, reduceCtorEq, J04, J02, Nat.reduceAdd, WKFC, gd6, gd9, gd15, gd19, gd22, gd29, gd33, gd36, gd41, t8, t9, ga, gb, hb, t68, q1]
        refine wst hsn 46 (some 85) (.pick (.tmp 72) (.const (Value.bool true)) (.tmp 84)) (some (29, true)) (by kernel_rfl) rfl ?_
        simp only [rgC, sop, ↓reduceIte, Nat.reduceEqDiff, reduceCtorEq, J04, J02, Nat.reduceAdd, WKFC, gd6, gd9, gd15, gd19, gd22, gd29, gd33, gd36, gd41, t8, t9, ga, gb, hb, t68, q1]
        refine wst hsn 47 (some 86) (.pick (.tmp 68) (.tmp 85) (.const (Value.bool false))) (none) (by kernel_rfl) rfl ?_
        simp only [rgC, sop, ↓reduceIte, Nat.reduceEqDiff, reduceCtorEq, J04, J02, Nat.reduceAdd, WKFC, gd6, gd9, gd15, gd19, gd22, gd29, gd33, gd36, gd41, t8, t9, ga, gb, hb, t68, q1]
        refine wst hsn 48 (some 10) (.assign (.tmp 86)) (none) (by kernel_rfl) rfl ?_
        simp only [rgC, sop, ↓reduceIte, Nat.reduceEqDiff, reduceCtorEq, J04, J02, Nat.reduceAdd, WKFC, gd6, gd9, gd15, gd19, gd22, gd29, gd33, gd36, gd41, t8, t9, ga, gb, hb, t68, q1]
        refine hk _ ?_ ?_
        · simp only [Tr.get_put, if_true]; first | rfl | simp [*]
        · intro t ht
          rw [J03 (d := 10) (b := 10) (by decide) ht, J03 (d := 86) (b := 10) (by decide) ht, J03 (d := 85) (b := 10) (by decide) ht, J03 (d := 84) (b := 10) (by decide) ht, J03 (d := 83) (b := 10) (by decide) ht, J03 (d := 82) (b := 10) (by decide) ht, J03 (d := 81) (b := 10) (by decide) ht, J03 (d := 80) (b := 10) (by decide) ht, J03 (d := 79) (b := 10) (by decide) ht, J03 (d := 78) (b := 10) (by decide) ht, J03 (d := 77) (b := 10) (by decide) ht, J03 (d := 76) (b := 10) (by decide) ht, J03 (d := 75) (b := 10) (by decide) ht, J03 (d := 74) (b := 10) (by decide) ht, J03 (d := 73) (b := 10) (by decide) ht, J03 (d := 72) (b := 10) (by decide) ht, J03 (d := 71) (b := 10) (by decide) ht, J03 (d := 70) (b := 10) (by decide) ht, J03 (d := 69) (b := 10) (by decide) ht]
      · skip
        refine wst hsn 37 (some 76) (.fieldAddr 46 (.tmp 8) 3) (some (36, true)) (by kernel_rfl) rfl ?_
        simp only [rgC, sop, ↓reduceIte, Nat.reduceEqDiff, reduceCtorEq, J04, J02, Nat.reduceAdd, WKFC, J0O, gd6, gd9, gd15, gd19, gd22, gd29, gd33, gd36, gd41, t8, t9, ga, gb, hb, t68, q1]
        refine wst hsn 38 (some 77) (.load 3 (.tmp 76)) (some (36, true)) (by kernel_rfl) rfl ?_
        simp only [rgC, sop, ↓reduceIte, Nat.reduceEqDiff, reduceCtorEq, J04, J02, Nat.reduceAdd, WKFC, J0m, J0d, J1V, J0u, J1d, J2a, J2O, J2b, J2N, Nat.zero_add, J0f, decide_true, false_implies, forall_const, gd6, gd9, gd15, gd19, gd22, gd29, gd33, gd36, gd41, t8, t9, ga, gb, hb, t68, q1]
        refine wst hsn 39 (some 78) (.binOp .gtr 3 (.tmp 77) (.const (Value.int IntKind.i64 0)) 3) (some (36, true)) (by kernel_rfl) rfl ?_
        simp only [rgC, sop, ↓reduceIte, Nat.reduceEqDiff, reduceCtorEq, J04, J02, Nat.reduceAdd, WKFC, J24, J1y, J1C, J23, J21, J22, gd6, gd9, gd15, gd19, gd22, gd29, gd33, gd36, gd41, t8, t9, ga, gb, hb, t68, q1]
        cases q3 : decide (x.n > 0)
        · skip
          refine wst hsn 40 (some 79) (.pick (.tmp 75) (.tmp 78) (.const (Value.bool false))) (some (33, false)) (by kernel_rfl) rfl ?_
          simp only [rgC, sop, ↓reduceIte, Nat.reduceEqDiff, reduceCtorEq, J04, J02, Nat.reduceAdd, WKFC, gd6, gd9, gd15, gd19, gd22, gd29, gd33, gd36, gd41, t8, t9, ga, gb, hb, t68, q1, q3]
          refine wst hsn 41 (some 80) (.move (.tmp 79)) (some (33, false)) (by kernel_rfl) rfl ?_
          simp only [rgC, sop, ↓reduceIte, Nat.reduceEqDiff, reduceCtorEq, J04, J02, Nat.reduceAdd, WKFC, gd6, gd9, gd15, gd19, gd22, gd29, gd33, gd36, gd41, t8, t9, ga, gb, hb, t68, q1, q3]
          refine wst hsn 42 (some 81) (.fieldAddr 46 (.tmp 8) 3) (some (41, true)) (by kernel_rfl) rfl ?_
          simp only [rgC, sop, ↓reduceIte, Nat.reduceEqDiff, reduceCtorEq, J04, J02, Nat.reduceAdd, WKFC, J0O, gd6, gd9, gd15, gd19, gd22, gd29, gd33, gd36, gd41, t8, t9, ga, gb, hb, t68, q1, q3]
          refine wst hsn 43 (some 82) (.load 3 (.tmp 81)) (some (41, true)) (by kernel_rfl) rfl ?_
          simp only [rgC, sop, ↓reduceIte, Nat.reduceEqDiff, reduceCtorEq, J04, J02, Nat.reduceAdd, WKFC, J0m, J0d, J1V, J0u, J1d, J2a, J2O, J2b, J2N, Nat.zero_add, J0f, decide_true, false_implies, forall_const, gd6, gd9, gd15, gd19, gd22, gd29, gd33, gd36, gd41, t8, t9, ga, gb, hb, t68, q1, q3]
          refine wst hsn 44 (some 83) (.binOp .leq 3 (.tmp 82) (.const (Value.int IntKind.i64 1073741824)) 3) (some (41, true)) (by kernel_rfl) rfl ?_
          simp only [rgC, sop, ↓reduceIte, Nat.reduceEqDiff, reduceCtorEq, J04, J02, Nat.reduceAdd, WKFC, J24, J1y, J1C, J23, J21, J22, gd6, gd9, gd15, gd19, gd22, gd29, gd33, gd36, gd41, t8, t9, ga, gb, hb, t68, q1, q3]
          refine wst hsn 45 (some 84) (.pick (.tmp 80) (.tmp 83) (.const (Value.bool false))) (some (33, false)) (by kernel_rfl) rfl ?_
          simp only [rgC, sop, ↓reduceIte, Nat.reduceEqDiff, reduceCtorEq, J04, J02, Nat.reduceAdd, WKFC, gd6, gd9, gd15, gd19, gd22, gd29, gd33, gd36, gd41, t8, t9, ga, gb, hb, t68, q1, q3]
          refine wst hsn 46 (some 85) (.pick (.tmp 72) (.const (Value.bool true)) (.tmp 84)) (some (29, true)) (by kernel_rfl) rfl ?_
          simp only [rgC, sop, ↓reduceIte, Nat.reduceEqDiff, reduceCtorEq, J04, J02, Nat.reduceAdd, WKFC, gd6, gd9, gd15, gd19, gd22, gd29, gd33, gd36, gd41, t8, t9, ga, gb, hb, t68, q1, q3]
          refine wst hsn 47 (some 86) (.pick (.tmp 68) (.tmp 85) (.const (Value.bool false))) (none) (by kernel_rfl) rfl ?_
          simp only [rgC, sop, ↓reduceIte, Nat.reduceEqDiff, reduceCtorEq, J04, J02, Nat.reduceAdd, WKFC, gd6, gd9, gd15, gd19, gd22, gd29, gd33, gd36, gd41, t8, t9, ga, gb, hb, t68, q1, q3]
          refine wst hsn 48 (some 10) (.assign (.tmp 86)) (none) (by kernel_rfl) rfl ?_
          simp only [rgC, sop, ↓reduceIte, Nat.reduceEqDiff, reduceCtorEq, J04, J02, Nat.reduceAdd, WKFC, gd6, gd9, gd15, gd19, gd22, gd29, gd33, gd36, gd41, t8, t9, ga, gb, hb, t68, q1, q3]
          refine hk _ ?_ ?_
          · simp only [Tr.get_put, if_true]; first | rfl | simp [*]
          · intro t ht
            rw [J03 (d := 10) (b := 10) (by decide) ht, J03 (d := 86) (b := 10) (by decide) ht, J03 (d := 85) (b := 10) (by decide) ht, J03 (d := 84) (b := 10) (by decide) ht, J03 (d := 83) (b := 10) (by decide) ht, J03 (d := 82) (b := 10) (by decide) ht, J03 (d := 81) (b := 10) (by decide) ht, J03 (d := 80) (b := 10) (by decide) ht, J03 (d := 79) (b := 10) (by decide) ht, J03 (d := 78) (b := 10) (by decide) ht, J03 (d := 77) (b := 10) (by decide) ht, J03 (d := 76) (b := 10) (by decide) ht, J03 (d := 75) (b := 10) (by decide) ht, J03 (d := 74) (b := 10) (by decide) ht, J03 (d := 73) (b := 10) (by decide) ht, J03 (d := 72) (b := 10) (by decide) ht, J03 (d := 71) (b := 10) (by decide) ht, J03 (d := 70) (b := 10) (by decide) ht, J03 (d := 69) (b := 10) (by decide) ht]
        · skip
          refine wst hsn 40 (some 79) (.pick (.tmp 75) (.tmp 78) (.const (Value.bool false))) (some (33, false)) (by kernel_rfl) rfl ?_
          simp only [rgC, sop, ↓reduceIte, Nat.reduceEqDiff, reduceCtorEq, J04, J02, Nat.reduceAdd, WKFC, gd6, gd9, gd15, gd19, gd22, gd29, gd33, gd36, gd41, t8, t9, ga, gb, hb, t68, q1, q3]
          refine wst hsn 41 (some 80) (.move (.tmp 79)) (some (33, false)) (by kernel_rfl) rfl ?_
          simp only [rgC, sop, ↓reduceIte, Nat.reduceEqDiff, reduceCtorEq, J04, J02, Nat.reduceAdd, WKFC, gd6, gd9, gd15, gd19, gd22, gd29, gd33, gd36, gd41, t8, t9, ga, gb, hb, t68, q1, q3]
          refine wst hsn 42 (some 81) (.fieldAddr 46 (.tmp 8) 3) (some (41, true)) (by kernel_rfl) rfl ?_
          simp only [rgC, sop, ↓reduceIte, Nat.reduceEqDiff, reduceCtorEq, J04, J02, Nat.reduceAdd, WKFC, J0O, gd6, gd9, gd15, gd19, gd22, gd29, gd33, gd36, gd41, t8, t9, ga, gb, hb, t68, q1, q3]
          refine wst hsn 43 (some 82) (.load 3 (.tmp 81)) (some (41, true)) (by kernel_rfl) rfl ?_
          simp only [rgC, sop, ↓reduceIte, Nat.reduceEqDiff, reduceCtorEq, J04, J02, Nat.reduceAdd, WKFC, J0m, J0d, J1V, J0u, J1d, J2a, J2O, J2b, J2N, Nat.zero_add, J0f, decide_true, false_implies, forall_const, gd6, gd9, gd15, gd19, gd22, gd29, gd33, gd36, gd41, t8, t9, ga, gb, hb, t68, q1, q3]
          refine wst hsn 44 (some 83) (.binOp .leq 3 (.tmp 82) (.const (Value.int IntKind.i64 1073741824)) 3) (some (41, true)) (by kernel_rfl) rfl ?_
          simp only [rgC, sop, ↓reduceIte, Nat.reduceEqDiff, reduceCtorEq, J04, J02, Nat.reduceAdd, WKFC, J24, J1y, J1C, J23, J21, J22, gd6, gd9, gd15, gd19, gd22, gd29, gd33, gd36, gd41, t8, t9, ga, gb, hb, t68, q1, q3]
          cases q4 : decide (x.n ≤ 1073741824)
          · skip
            refine wst hsn 45 (some 84) (.pick (.tmp 80) (.tmp 83) (.const (Value.bool false))) (some (33, false)) (by kernel_rfl) rfl ?_
            simp only [rgC, sop, ↓reduceIte, Nat.reduceEqDiff, reduceCtorEq, J04, J02, Nat.reduceAdd, WKFC, gd6, gd9, gd15, gd19, gd22, gd29, gd33, gd36, gd41, t8, t9, ga, gb, hb, t68, q1, q3, q4]
            refine wst hsn 46 (some 85) (.pick (.tmp 72) (.const (Value.bool true)) (.tmp 84)) (some (29, true)) (by kernel_rfl) rfl ?_
            simp only [rgC, sop, ↓reduceIte, Nat.reduceEqDiff, reduceCtorEq, J04, J02, Nat.reduceAdd, WKFC, gd6, gd9, gd15, gd19, gd22, gd29, gd33, gd36, gd41, t8, t9, ga, gb, hb, t68, q1, q3, q4]
            refine wst hsn 47 (some 86) (.pick (.tmp 68) (.tmp 85) (.const (Value.bool false))) (none) (by kernel_rfl) rfl ?_
            simp only [rgC, sop, ↓reduceIte, Nat.reduceEqDiff, reduceCtorEq, J04, J02, Nat.reduceAdd, WKFC, gd6, gd9, gd15, gd19, gd22, gd29, gd33, gd36, gd41, t8, t9, ga, gb, hb, t68, q1, q3, q4]
            refine wst hsn 48 (some 10) (.assign (.tmp 86)) (none) (by kernel_rfl) rfl ?_
            simp only [rgC, sop, ↓reduceIte, Nat.reduceEqDiff, reduceCtorEq, J04, J02, Nat.reduceAdd, WKFC, gd6, gd9, gd15, gd19, gd22, gd29, gd33, gd36, gd41, t8, t9, ga, gb, hb, t68, q1, q3, q4]
            refine hk _ ?_ ?_
            · simp only [Tr.get_put, if_true]; first | rfl | simp [*]
            · intro t ht
              rw [J03 (d := 10) (b := 10) (by decide) ht, J03 (d := 86) (b := 10) (by decide) ht, J03 (d := 85) (b := 10) (by decide) ht, J03 (d := 84) (b := 10) (by decide) ht, J03 (d := 83) (b := 10) (by decide) ht, J03 (d := 82) (b := 10) (by decide) ht, J03 (d := 81) (b := 10) (by decide) ht, J03 (d := 80) (b := 10) (by decide) ht, J03 (d := 79) (b := 10) (by decide) ht, J03 (d := 78) (b := 10) (by decide) ht, J03 (d := 77) (b := 10) (by decide) ht, J03 (d := 76) (b := 10) (by decide) ht, J03 (d := 75) (b := 10) (by decide) ht, J03 (d := 74) (b := 10) (by decide) ht, J03 (d := 73) (b := 10) (by decide) ht, J03 (d := 72) (b := 10) (by decide) ht, J03 (d := 71) (b := 10) (by decide) ht, J03 (d := 70) (b := 10) (by decide) ht, J03 (d := 69) (b := 10) (by decide) ht]
          · skip
            refine wst hsn 45 (some 84) (.pick (.tmp 80) (.tmp 83) (.const (Value.bool false))) (some (33, false)) (by kernel_rfl) rfl ?_
            simp only [rgC, sop, ↓reduceIte, Nat.reduceEqDiff, reduceCtorEq, J04, J02, Nat.reduceAdd, WKFC, gd6, gd9, gd15, gd19, gd22, gd29, gd33, gd36, gd41, t8, t9, ga, gb, hb, t68, q1, q3, q4]
            refine wst hsn 46 (some 85) (.pick (.tmp 72) (.const (Value.bool true)) (.tmp 84)) (some (29, true)) (by kernel_rfl) rfl ?_
            simp only [rgC, sop, ↓reduceIte, Nat.reduceEqDiff, reduceCtorEq, J04, J02, Nat.reduceAdd, WKFC, gd6, gd9, gd15, gd19, gd22, gd29, gd33, gd36, gd41, t8, t9, ga, gb, hb, t68, q1, q3, q4]
            refine wst hsn 47 (some 86) (.pick (.tmp 68) (.tmp 85) (.const (Value.bool false))) (none) (by kernel_rfl) rfl ?_
            simp only [rgC, sop, ↓reduceIte, Nat.reduceEqDiff, reduceCtorEq, J04, J02, Nat.reduceAdd, WKFC, gd6, gd9, gd15, gd19, gd22, gd29, gd33, gd36, gd41, t8, t9, ga, gb, hb, t68, q1, q3, q4]
            refine wst hsn 48 (some 10) (.assign (.tmp 86)) (none) (by kernel_rfl) rfl ?_
            simp only [rgC, sop, ↓reduceIte, Nat.reduceEqDiff, reduceCtorEq, J04, J02, Nat.reduceAdd, WKFC, gd6, gd9, gd15, gd19, gd22, gd29, gd33, gd36, gd41, t8, t9, ga, gb, hb, t68, q1, q3, q4]
            refine hk _ ?_ ?_
            · simp only [Tr.get_put, if_true]; first | rfl | simp [*]
            · intro t ht
              rw [J03 (d := 10) (b := 10) (by decide) ht, J03 (d := 86) (b := 10) (by decide) ht, J03 (d := 85) (b := 10) (by decide) ht, J03 (d := 84) (b := 10) (by decide) ht, J03 (d := 83) (b := 10) (by decide) ht, J03 (d := 82) (b := 10) (by decide) ht, J03 (d := 81) (b := 10) (by decide) ht, J03 (d := 80) (b := 10) (by decide) ht, J03 (d := 79) (b := 10) (by decide) ht, J03 (d := 78) (b := 10) (by decide) ht, J03 (d := 77) (b := 10) (by decide) ht, J03 (d := 76) (b := 10) (by decide) ht, J03 (d := 75) (b := 10) (by decide) ht, J03 (d := 74) (b := 10) (by decide) ht, J03 (d := 73) (b := 10) (by decide) ht, J03 (d := 72) (b := 10) (by decide) ht, J03 (d := 71) (b := 10) (by decide) ht, J03 (d := 70) (b := 10) (by decide) ht, J03 (d := 69) (b := 10) (by decide) ht]
    · skip
      refine wst hsn 33 (some 72) (.move (.tmp 71)) (some (29, true)) (by kernel_rfl) rfl ?_
      simp only [rgC, sop, ↓reduceIte, Nat.reduceEqDiff, reduceCtorEq, J04, J02, Nat.reduceAdd, WKFC, gd6, gd9, gd15, gd19, gd22, gd29, gd33, gd36, gd41, t8, t9, ga, gb, hb, t68, q1]
      refine wst hsn 34 (some 73) (.fieldAddr 123 (.tmp 9) 2) (some (33, false)) (by kernel_rfl) rfl ?_
      simp only [rgC, sop, ↓reduceIte, Nat.reduceEqDiff, reduceCtorEq, J04, J02, Nat.reduceAdd, WKFC, J5G, gd6, gd9, gd15, gd19, gd22, gd29, gd33, gd36, gd41, t8, t9, ga, gb, hb, t68, q1]
      refine wst hsn 35 (some 74) (.load 4 (.tmp 73)) (some (33, false)) (by kernel_rfl) rfl ?_
      simp only [rgC, sop, ↓reduceIte, Nat.reduceEqDiff, reduceCtorEq, J04, J02, Nat.reduceAdd, WKFC, J0m, J0d, J1V, J0u, J1d, J2a, J2O, J2b, J2N, Nat.zero_add, J0f, decide_true, false_implies, forall_const, gd6, gd9, gd15, gd19, gd22, gd29, gd33, gd36, gd41, t8, t9, ga, gb, hb, t68, q1]
      refine wst hsn 36 (some 75) (.move (.tmp 74)) (some (33, false)) (by kernel_rfl) rfl ?_
      simp only [rgC, sop, ↓reduceIte, Nat.reduceEqDiff, reduceCtorEq, J04, J02, Nat.reduceAdd, WKFC, gd6, gd9, gd15, gd19, gd22, gd29, gd33, gd36, gd41, t8, t9, ga, gb, hb, t68, q1]
      refine wst hsn 37 (some 76) (.fieldAddr 46 (.tmp 8) 3) (some (36, true)) (by kernel_rfl) rfl ?_
      simp only [rgC, sop, ↓reduceIte, Nat.reduceEqDiff, reduceCtorEq, J04, J02, Nat.reduceAdd, WKFC, J0O, gd6, gd9, gd15, gd19, gd22, gd29, gd33, gd36, gd41, t8, t9, ga, gb, hb, t68, q1]
      refine wst hsn 38 (some 77) (.load 3 (.tmp 76)) (some (36, true)) (by kernel_rfl) rfl ?_
      simp only [rgC, sop, ↓reduceIte, Nat.reduceEqDiff, reduceCtorEq, J04, J02, Nat.reduceAdd, WKFC, J0m, J0d, J1V, J0u, J1d, J2a, J2O, J2b, J2N, Nat.zero_add, J0f, decide_true, false_implies, forall_const, gd6, gd9, gd15, gd19, gd22, gd29, gd33, gd36, gd41, t8, t9, ga, gb, hb, t68, q1]
      refine wst hsn 39 (some 78) (.binOp .gtr 3 (.tmp 77) (.const (Value.int IntKind.i64 0)) 3) (some (36, true)) (by kernel_rfl) rfl ?_
      simp only [rgC, sop, ↓reduceIte, Nat.reduceEqDiff, reduceCtorEq, J04, J02, Nat.reduceAdd, WKFC, J24, J1y, J1C, J23, J21, J22, gd6, gd9, gd15, gd19, gd22, gd29, gd33, gd36, gd41, t8, t9, ga, gb, hb, t68, q1]
      refine wst hsn 40 (some 79) (.pick (.tmp 75) (.tmp 78) (.const (Value.bool false))) (some (33, false)) (by kernel_rfl) rfl ?_
      simp only [rgC, sop, ↓reduceIte, Nat.reduceEqDiff, reduceCtorEq, J04, J02, Nat.reduceAdd, WKFC, gd6, gd9, gd15, gd19, gd22, gd29, gd33, gd36, gd41, t8, t9, ga, gb, hb, t68, q1]
      refine wst hsn 41 (some 80) (.move (.tmp 79)) (some (33, false)) (by kernel_rfl) rfl ?_
      simp only [rgC, sop, ↓reduceIte, Nat.reduceEqDiff, reduceCtorEq, J04, J02, Nat.reduceAdd, WKFC, gd6, gd9, gd15, gd19, gd22, gd29, gd33, gd36, gd41, t8, t9, ga, gb, hb, t68, q1]
      refine wst hsn 42 (some 81) (.fieldAddr 46 (.tmp 8) 3) (some (41, true)) (by kernel_rfl) rfl ?_
      simp only [rgC, sop, ↓reduceIte, Nat.reduceEqDiff, reduceCtorEq, J04, J02, Nat.reduceAdd, WKFC, J0O, gd6, gd9, gd15, gd19, gd22, gd29, gd33, gd36, gd41, t8, t9, ga, gb, hb, t68, q1]
      refine wst hsn 43 (some 82) (.load 3 (.tmp 81)) (some (41, true)) (by kernel_rfl) rfl ?_
      simp only [rgC, sop, ↓reduceIte, Nat.reduceEqDiff, reduceCtorEq, J04, J02, Nat.reduceAdd, WKFC, J0m, J0d, J1V, J0u, J1d, J2a, J2O, J2b, J2N, Nat.zero_add, J0f, decide_true, false_implies, forall_const, gd6, gd9, gd15, gd19, gd22, gd29, gd33, gd36, gd41, t8, t9, ga, gb, hb, t68, q1]
      refine wst hsn 44 (some 83) (.binOp .leq 3 (.tmp 82) (.const (Value.int IntKind.i64 1073741824)) 3) (some (41, true)) (by kernel_rfl) rfl ?_
      simp only [rgC, sop, ↓reduceIte, Nat.reduceEqDiff, reduceCtorEq, J04, J02, Nat.reduceAdd, WKFC, J24, J1y, J1C, J23, J21, J22, gd6, gd9, gd15, gd19, gd22, gd29, gd33, gd36, gd41, t8, t9, ga, gb, hb, t68, q1]
      refine wst hsn 45 (some 84) (.pick (.tmp 80) (.tmp 83) (.const (Value.bool false))) (some (33, false)) (by kernel_rfl) rfl ?_
      simp only [rgC, sop, ↓reduceIte, Nat.reduceEqDiff, reduceCtorEq, J04, J02, Nat.reduceAdd, WKFC, gd6, gd9, gd15, gd19, gd22, gd29, gd33, gd36, gd41, t8, t9, ga, gb, hb, t68, q1]
      refine wst hsn 46 (some 85) (.pick (.tmp 72) (.const (Value.bool true)) (.tmp 84)) (some (29, true)) (by kernel_rfl) rfl ?_
      simp only [rgC, sop, ↓reduceIte, Nat.reduceEqDiff, reduceCtorEq, J04, J02, Nat.reduceAdd, WKFC, gd6, gd9, gd15, gd19, gd22, gd29, gd33, gd36, gd41, t8, t9, ga, gb, hb, t68, q1]
      refine wst hsn 47 (some 86) (.pick (.tmp 68) (.tmp 85) (.const (Value.bool false))) (none) (by kernel_rfl) rfl ?_
      simp only [rgC, sop, ↓reduceIte, Nat.reduceEqDiff, reduceCtorEq, J04, J02, Nat.reduceAdd, WKFC, gd6, gd9, gd15, gd19, gd22, gd29, gd33, gd36, gd41, t8, t9, ga, gb, hb, t68, q1]
      refine wst hsn 48 (some 10) (.assign (.tmp 86)) (none) (by kernel_rfl) rfl ?_
      simp only [rgC, sop, ↓reduceIte, Nat.reduceEqDiff, reduceCtorEq, J04, J02, Nat.reduceAdd, WKFC, gd6, gd9, gd15, gd19, gd22, gd29, gd33, gd36, gd41, t8, t9, ga, gb, hb, t68, q1]
      refine hk _ ?_ ?_
      · simp only [Tr.get_put, if_true]; first | rfl | simp [*]
      · intro t ht
        rw [J03 (d := 10) (b := 10) (by decide) ht, J03 (d := 86) (b := 10) (by decide) ht, J03 (d := 85) (b := 10) (by decide) ht, J03 (d := 84) (b := 10) (by decide) ht, J03 (d := 83) (b := 10) (by decide) ht, J03 (d := 82) (b := 10) (by decide) ht, J03 (d := 81) (b := 10) (by decide) ht, J03 (d := 80) (b := 10) (by decide) ht, J03 (d := 79) (b := 10) (by decide) ht, J03 (d := 78) (b := 10) (by decide) ht, J03 (d := 77) (b := 10) (by decide) ht, J03 (d := 76) (b := 10) (by decide) ht, J03 (d := 75) (b := 10) (by decide) ht, J03 (d := 74) (b := 10) (by decide) ht, J03 (d := 73) (b := 10) (by decide) ht, J03 (d := 72) (b := 10) (by decide) ht, J03 (d := 71) (b := 10) (by decide) ht, J03 (d := 70) (b := 10) (by decide) ht, J03 (d := 69) (b := 10) (by decide) ht]
end
end Go.Proofs.YtipekdhneagdbaaDoor
/- The program's check of one row and all of its own: the rest of it. -/
namespace Go.Proofs.YtipekdhneagdbaaDoor
open Go Go.Sx
set_option maxRecDepth 100000
set_option linter.unusedSimpArgs false
set_option linter.unusedVariables false

def rt : Code → Code
  | .seq _ b => b
  | c => c
def lf : Code → Code
  | .seq a _ => a
  | c => c
noncomputable def J77 : Code := rt (rt (rt (Tryd.f73.body.getD .skip)))
theorem Jba {what k : Int} (hw : what ≠ 8) (h : J1l what k = true) : k ≠ 1 := by
  intro e
  subst e
  unfold J1l at h
  rw [if_neg hw] at h
  (repeat' split at h) <;> simp at h
theorem Jbu {k : Int} {j : Nat} : J0A k j ≠ 8 := J5w.2
theorem J4a (k : Int) : 0 ≤ J1U k := by unfold J1U; (repeat' split) <;> omega

section
variable {call : J0r} {n : Nat}
/-- What the recursion asks of the calls. -/
structure Calls73 (call : J0r) (l : List RowN) (v : Value) (m at_ : Nat) : Prop where
  asked : ∀ (k : Int) (j : Nat) h, 1 ≤ k ∧ k ≤ 54 → (k = 11 ∨ (j : Int) < J1r k) → call 93 [iv k, iv j] h = some (iv (J0A k j), h)
  row : ∀ (p : Nat) (w : Int) h, at_ < p → p ≤ l.length → w ≠ 8 → J0l h v l → h.get 0 = J14 → 0 < h.next → h.floor ≤ h.next → call 73 [v, iv p, iv w] h = some (.tuple #[iv ((rowN J09 l m p w).1 : Int), .bool (rowN J09 l m p w).2], h)

set_option maxHeartbeats 16000000 in
theorem Jfc (hsn : J1G call) {l : List RowN} {v : Value} {m at_ a b : Nat} {x : RowN} {T : Tr} {h : SHeap} {k : Kont} {ga0 gb0 : Bool} (hc : Calls73 call l v m at_) (hn : l.length + 3 < n) (hlen : l.length < 1099511627776) (hat : at_ < l.length)
    (h91 : ∀ h', h'.get 0 = J14 → call 91 [.string x.name] h' = some (.bool (J09 x.name), h'))
    (hv : J0l h v l) (hg : h.get 0 = J14) (hn0 : 0 < h.next) (hfl : h.floor ≤ h.next) (hkind : 1 ≤ x.kind ∧ x.kind ≤ 54) (hk1 : x.kind ≠ 1)
    (t0 : T.get 0 = v) (t1 : T.get 1 = iv at_) (t8 : T.get 8 = .pointer (some ⟨a, 0, none⟩)) (t9 : T.get 9 = .pointer (some ⟨b, 0, none⟩))
    (ga : h.get a = .row [.int .i64 x.kind, .string x.name, .int .i64 x.ends, .int .i64 x.n, .int .i64 x.kids] 46 ga0 false)
    (gb : h.get b = .row [.bool (J3l x.kind), .bool (endK x.kind), .bool (x.kind == 27), .int .i64 (J1U x.kind), .int .i64 (J1r x.kind)] 123 gb0 false) (hb : b < h.next)
    (hk : ∀ T' (p : Nat) ok, (p, ok) = (if fitN J09 x = true then J2r (fun k next => rowN J09 l m next (J0A x.kind k)) x.kids.toNat 0 (at_ + 1) else (at_, false)) → T'.get 6 = iv p → T'.get 7 = .bool ok → k.ap Tryd.prog call n .ret ⟨T', h⟩) :
    WK Tryd.prog call n J77 ⟨T, h⟩ k := by
  show WK _ _ _ (.seq (.region _ _ true) _) _ _
  rw [J4p]
  refine WK.flags (ops := J0M) J8v ?_
  refine WKF.begin ?_
  refine ph1 hsn t8 t9 ga gb (by simpa using hb) (fun h' e => h91 h' (by rw [e]; exact hg)) fun T1 e1 k1 => ?_
  refine ph2 hsn (by rw [k1 8 (by decide)]; exact t8) (by rw [k1 9 (by decide)]; exact t9) ga gb (by simpa using hb) e1 fun T2 e2 k2 => ?_
  refine ph3 hsn (by rw [k2 8 (by decide), k1 8 (by decide)]; exact t8) (by rw [k2 9 (by decide), k1 9 (by decide)]; exact t9) ga gb (by simpa using hb) e2 fun T3 e3 k3 => ?_
  refine WKF.done (i := 49) (by kernel_rfl) ?_
  rw [J7O]
  have kp : ∀ t : Nat, t < 10 → T3.get t = T.get t := fun t ht => by rw [k3 t ht, k2 t (by omega), k1 t (by omega)]
  have u0 := (kp 0 (by decide)).trans t0
  have u1 := (kp 1 (by decide)).trans t1
  have u8 := (kp 8 (by decide)).trans t8
  have u9 := (kp 9 (by decide)).trans t9
  clear k1 k2 k3 kp e1 e2
  generalize hcc : (((J09 x.name == J3l x.kind) && (J3l x.kind || x.name == ⟨#[]⟩)) && (x.ends == 0 || endK x.kind && x.ends == 1) && (x.n == 0 || (x.kind == 27) && decide (x.n > 0) && decide (x.n ≤ 1073741824))) = cc at e3
  have hfit : fitN J09 x = (cc && decide (x.kids ≥ J1U x.kind) && (decide (J1r x.kind < 0) || decide (x.kids ≤ J1r x.kind))) := by
    rw [← hcc]
    rfl
  have bad : fitN J09 x = false → ∀ T', T'.get 6 = iv at_ → T'.get 7 = .bool false → k.ap Tryd.prog call n .ret ⟨T', h⟩ := fun hf T' h6 h7 => hk T' at_ false (by rw [hf]; rfl) h6 h7
  have e1 : (x.kind == 1) = false := by simpa using hk1
  have hkids : fitN J09 x = true → 0 ≤ x.kids ∧ (decide (J1r x.kind < 0) || decide (x.kids ≤ J1r x.kind)) = true := fun hf => by
    rw [hfit] at hf
    simp only [Bool.and_eq_true, decide_eq_true_eq] at hf
    have := J4a x.kind
    exact ⟨by omega, hf.2⟩
  have main : fitN J09 x = true → ∀ T', T'.get 0 = v → T'.get 1 = iv at_ → T'.get 8 = .pointer (some ⟨a, 0, none⟩) → WK Tryd.prog call n (rt (rt J77)) ⟨T', h⟩ k := by
    intro hf T' w0 w1 w8
    obtain ⟨hk0, hkm⟩ := hkids hf
    have hkN : ((x.kids.toNat : Nat) : Int) = x.kids := by omega
    have wat : IntKind.i64.wrap ((at_ : Int) + 1) = ((at_ + 1 : Nat) : Int) := J0s (by omega) (by omega)
    show WK _ _ _ (.seq _ _) _ _
    simp only [evC, sop, J00, J01, evs, resS, resV, ↓reduceIte, Nat.reduceEqDiff, reduceCtorEq, ↓evP, rpC, Nat.reduceAdd, Nat.reduceLT, w0, w1, w8, ga, e1]
    have res : ∀ (p : Nat) ok, J2r (fun k next => rowN J09 l m next (J0A x.kind k)) x.kids.toNat 0 (at_ + 1) = (p, ok) → ∀ T', T'.get 6 = iv p → T'.get 7 = .bool ok → k.ap Tryd.prog call n .ret ⟨T', h⟩ := fun p ok e T' h6 h7 => hk T' p ok (by rw [if_pos hf, e]) h6 h7
    generalize hg0 : J2r (fun k next => rowN J09 l m next (J0A x.kind k)) x.kids.toNat 0 (at_ + 1) = R at res
    refine WK.loop (fun i s => s.h = h ∧ s.T.get 0 = v ∧ s.T.get 8 = .pointer (some ⟨a, 0, none⟩) ∧ s.T.get 13 = iv i ∧ ∃ p : Nat, ∃ ok : Bool, s.T.get 11 = iv p ∧ s.T.get 12 = .bool ok ∧ p ≤ l.length ∧ i ≤ l.length + 1 ∧
      ((ok = true ∧ i ≤ x.kids.toNat ∧ at_ + 1 + i ≤ p ∧ J2r (fun k next => rowN J09 l m next (J0A x.kind k)) (x.kids.toNat - i) i p = R) ∨ (ok = false ∧ R = (p, false)))) (l.length + 2) (by omega) ?_ ?_
    · simp only [evC, sop, J00, J01, evs, resS, resV, ↓reduceIte, Nat.reduceEqDiff, reduceCtorEq, ↓evP, rpC, Nat.reduceAdd, Nat.reduceLT, w0, w8]
      exact ⟨rfl, at_ + 1, true, wat, rfl, by omega, .inl ⟨rfl, by omega, by rw [Nat.sub_zero]; exact hg0⟩⟩
    · rintro i ⟨T1, h1⟩ hi ⟨rfl, y0, y8, y13, p, ok, y11, y12, hp, hil, hcase⟩
      simp only at y0 y8 y13 y11 y12
      rcases hcase with ⟨rfl, hik, hpi, hR⟩ | ⟨rfl, hR⟩
      · by_cases hlt : i < x.kids.toNat
        · have c1 : decide ((i : Int) < x.kids) = true := by simp only [decide_eq_true_eq]; omega
          have hask := fun hh => hc.asked x.kind i hh hkind (by
            simp only [Bool.or_eq_true, decide_eq_true_eq] at hkm
            rcases hkm with h | h
            · left
              unfold J1r at h
              (repeat' split at h) <;> simp_all
            · right; omega)
          have hrow := fun hv' hg' => hc.row p (J0A x.kind i) h1 (by omega) hp Jbu hv' hg' hn0 hfl
          have hrow' := hrow hv hg
          have w5 : IntKind.i64.wrap ((i : Int) + 1) = ((i + 1 : Nat) : Int) := J0s (by omega) (by omega)
          generalize hq : rowN J09 l m p (J0A x.kind i) = q at hrow'
          have hstep : J2r (fun k next => rowN J09 l m next (J0A x.kind k)) (x.kids.toNat - i) i p = if q.2 = true then J2r (fun k next => rowN J09 l m next (J0A x.kind k)) (x.kids.toNat - (i + 1)) (i + 1) q.1 else (q.1, false) := by
            obtain ⟨r, hr⟩ : ∃ r, x.kids.toNat - i = r + 1 := ⟨x.kids.toNat - i - 1, by omega⟩
            rw [hr, show x.kids.toNat - (i + 1) = r by omega]
            simp only [J2r, hq]
          have hq1 : q.1 ≤ l.length := by rw [← hq]; exact J6h m p _ hp
          have hq2 : q.2 = true → p < q.1 := fun h => by
            have := J5D (isName := J09) (l := l) m p (J0A x.kind i)
            rw [hq] at this
            exact (this h).1
          simp only [evC, sop, J00, J01, evs, resS, resV, ↓reduceIte, Nat.reduceEqDiff, reduceCtorEq, ↓evP, rpC, Nat.reduceAdd, Nat.reduceLT, y0, y8, y13, y11, y12, ga, c1, hask, hrow']
          refine ⟨by omega, w5, q.1, q.2, rfl, rfl, hq1, by omega, ?_⟩
          cases hb2 : q.2 with
          | true =>
            left
            have := hq2 hb2
            rw [hb2, if_pos rfl] at hstep
            exact ⟨rfl, by omega, by omega, by rw [← hstep]; exact hR⟩
          | false =>
            right
            rw [hb2, if_neg (by simp)] at hstep
            exact ⟨rfl, by rw [← hR, hstep]⟩
        · have c1 : decide ((i : Int) < x.kids) = false := by simp only [decide_eq_false_iff_not]; omega
          have hie : x.kids.toNat - i = 0 := by omega
          rw [hie] at hR
          simp only [evC, sop, J00, J01, evs, resS, resV, ↓reduceIte, Nat.reduceEqDiff, reduceCtorEq, ↓evP, rpC, Nat.reduceAdd, Nat.reduceLT, y0, y8, y13, y11, y12, ga, c1]
          refine res p true (by rw [← hR]; rfl) _ ?_ ?_
          · simp only [evC, sop, J00, J01, evs, resS, resV, ↓reduceIte, Nat.reduceEqDiff, reduceCtorEq, ↓evP, rpC, Nat.reduceAdd, Nat.reduceLT, y11]
          · simp only [evC, sop, J00, J01, evs, resS, resV, ↓reduceIte, Nat.reduceEqDiff, reduceCtorEq, ↓evP, rpC, Nat.reduceAdd, Nat.reduceLT, y12]
      · cases c1 : decide ((i : Int) < x.kids) with
        | true =>
          simp only [evC, sop, J00, J01, evs, resS, resV, ↓reduceIte, Nat.reduceEqDiff, reduceCtorEq, ↓evP, rpC, Nat.reduceAdd, Nat.reduceLT, y0, y8, y13, y11, y12, ga, c1]
          refine res p false hR _ ?_ ?_
          · simp only [evC, sop, J00, J01, evs, resS, resV, ↓reduceIte, Nat.reduceEqDiff, reduceCtorEq, ↓evP, rpC, Nat.reduceAdd, Nat.reduceLT, y11]
          · simp only [evC, sop, J00, J01, evs, resS, resV, ↓reduceIte, Nat.reduceEqDiff, reduceCtorEq, ↓evP, rpC, Nat.reduceAdd, Nat.reduceLT, y12]
        | false =>
          simp only [evC, sop, J00, J01, evs, resS, resV, ↓reduceIte, Nat.reduceEqDiff, reduceCtorEq, ↓evP, rpC, Nat.reduceAdd, Nat.reduceLT, y0, y8, y13, y11, y12, ga, c1]
          refine res p false hR _ ?_ ?_
          · simp only [evC, sop, J00, J01, evs, resS, resV, ↓reduceIte, Nat.reduceEqDiff, reduceCtorEq, ↓evP, rpC, Nat.reduceAdd, Nat.reduceLT, y11]
          · simp only [evC, sop, J00, J01, evs, resS, resV, ↓reduceIte, Nat.reduceEqDiff, reduceCtorEq, ↓evP, rpC, Nat.reduceAdd, Nat.reduceLT, y12]
  show WK _ _ _ (.seq _ (rt (rt J77))) _ _
  cases cc with
  | false =>
    simp only [evC, sop, J00, J01, evs, resS, resV, ↓reduceIte, Nat.reduceEqDiff, reduceCtorEq, ↓evP, rpC, Nat.reduceAdd, Nat.reduceLT, e3, u0, u1, u8, u9, ga, gb]
    refine bad (by rw [hfit]; rfl) _ ?_ ?_
    · simp only [evC, sop, J00, J01, evs, resS, resV, ↓reduceIte, Nat.reduceEqDiff, reduceCtorEq, ↓evP, rpC, Nat.reduceAdd, Nat.reduceLT]
    · simp only [evC, sop, J00, J01, evs, resS, resV, ↓reduceIte, Nat.reduceEqDiff, reduceCtorEq, ↓evP, rpC, Nat.reduceAdd, Nat.reduceLT]
  | true =>
    cases d1 : decide (x.kids < J1U x.kind) with
    | true =>
      simp only [evC, sop, J00, J01, evs, resS, resV, ↓reduceIte, Nat.reduceEqDiff, reduceCtorEq, ↓evP, rpC, Nat.reduceAdd, Nat.reduceLT, e3, u0, u1, u8, u9, ga, gb, d1]
      refine bad (by rw [hfit, decide_eq_false (by simp only [decide_eq_true_eq] at d1; omega)]; rfl) _ ?_ ?_
      · simp only [evC, sop, J00, J01, evs, resS, resV, ↓reduceIte, Nat.reduceEqDiff, reduceCtorEq, ↓evP, rpC, Nat.reduceAdd, Nat.reduceLT]
      · simp only [evC, sop, J00, J01, evs, resS, resV, ↓reduceIte, Nat.reduceEqDiff, reduceCtorEq, ↓evP, rpC, Nat.reduceAdd, Nat.reduceLT]
    | false =>
      have hl : decide (x.kids ≥ J1U x.kind) = true := by simp only [decide_eq_false_iff_not] at d1; simp only [decide_eq_true_eq]; omega
      cases d2 : decide (J1r x.kind ≥ 0) with
      | false =>
        have hm : decide (J1r x.kind < 0) = true := by simp only [decide_eq_false_iff_not] at d2; simp only [decide_eq_true_eq]; omega
        simp only [evC, sop, J00, J01, evs, resS, resV, ↓reduceIte, Nat.reduceEqDiff, reduceCtorEq, ↓evP, rpC, Nat.reduceAdd, Nat.reduceLT, e3, u0, u1, u8, u9, ga, gb, d1, d2]
        refine main (by rw [hfit, hl, hm]; rfl) _ ?_ ?_ ?_
        · simp only [evC, sop, J00, J01, evs, resS, resV, ↓reduceIte, Nat.reduceEqDiff, reduceCtorEq, ↓evP, rpC, Nat.reduceAdd, Nat.reduceLT, u0]
        · simp only [evC, sop, J00, J01, evs, resS, resV, ↓reduceIte, Nat.reduceEqDiff, reduceCtorEq, ↓evP, rpC, Nat.reduceAdd, Nat.reduceLT, u1]
        · simp only [evC, sop, J00, J01, evs, resS, resV, ↓reduceIte, Nat.reduceEqDiff, reduceCtorEq, ↓evP, rpC, Nat.reduceAdd, Nat.reduceLT, u8]
      | true =>
        cases d3 : decide (x.kids > J1r x.kind) with
        | true =>
          have hm : decide (J1r x.kind < 0) = false := by simp only [decide_eq_true_eq] at d2; simp only [decide_eq_false_iff_not]; omega
          have hm2 : decide (x.kids ≤ J1r x.kind) = false := by simp only [decide_eq_true_eq] at d3; simp only [decide_eq_false_iff_not]; omega
          simp only [evC, sop, J00, J01, evs, resS, resV, ↓reduceIte, Nat.reduceEqDiff, reduceCtorEq, ↓evP, rpC, Nat.reduceAdd, Nat.reduceLT, e3, u0, u1, u8, u9, ga, gb, d1, d2, d3]
          refine bad (by rw [hfit, hl, hm, hm2]; rfl) _ ?_ ?_
          · simp only [evC, sop, J00, J01, evs, resS, resV, ↓reduceIte, Nat.reduceEqDiff, reduceCtorEq, ↓evP, rpC, Nat.reduceAdd, Nat.reduceLT]
          · simp only [evC, sop, J00, J01, evs, resS, resV, ↓reduceIte, Nat.reduceEqDiff, reduceCtorEq, ↓evP, rpC, Nat.reduceAdd, Nat.reduceLT]
        | false =>
          have hm2 : decide (x.kids ≤ J1r x.kind) = true := by simp only [decide_eq_false_iff_not] at d3; simp only [decide_eq_true_eq]; omega
          simp only [evC, sop, J00, J01, evs, resS, resV, ↓reduceIte, Nat.reduceEqDiff, reduceCtorEq, ↓evP, rpC, Nat.reduceAdd, Nat.reduceLT, e3, u0, u1, u8, u9, ga, gb, d1, d2, d3]
          refine main (by rw [hfit, hl, hm2, Bool.or_true]; rfl) _ ?_ ?_ ?_
          · simp only [evC, sop, J00, J01, evs, resS, resV, ↓reduceIte, Nat.reduceEqDiff, reduceCtorEq, ↓evP, rpC, Nat.reduceAdd, Nat.reduceLT, u0]
          · simp only [evC, sop, J00, J01, evs, resS, resV, ↓reduceIte, Nat.reduceEqDiff, reduceCtorEq, ↓evP, rpC, Nat.reduceAdd, Nat.reduceLT, u1]
          · simp only [evC, sop, J00, J01, evs, resS, resV, ↓reduceIte, Nat.reduceEqDiff, reduceCtorEq, ↓evP, rpC, Nat.reduceAdd, Nat.reduceLT, u8]
end
end Go.Proofs.YtipekdhneagdbaaDoor
