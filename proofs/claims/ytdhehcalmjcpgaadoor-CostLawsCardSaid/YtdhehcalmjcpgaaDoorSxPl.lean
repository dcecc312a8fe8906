/- Sums and products of lists: no order, by parts (plain Lean). -/
import Derived.Test.YtdhehcalmjcpgaaDoorSxTimes
namespace Go.Proofs.YtdhehcalmjcpgaaDoor
open Go Go.Sx
set_option maxRecDepth 100000
set_option linter.unusedSimpArgs false
set_option linter.unusedVariables false

def satM (p : Int) : Int := if p > 4611686018427387904 then 4611686018427387904 else p
def prod : List Int → Int
  | [] => 1
  | x :: l => x * prod l
theorem prod_append (a b : List Int) : prod (a ++ b) = prod a * prod b := by
  induction a with
  | nil => simp [prod]
  | cons x a ih => simp only [List.cons_append, prod, ih, Int.mul_assoc]
theorem prod_pos {l : List Int} (h : allPos l = true) : 1 ≤ prod l := by
  induction l with
  | nil => simp [prod]
  | cons x l ih =>
    simp only [allPos, List.all_cons, Bool.and_eq_true, decide_eq_true_eq] at h
    have h1 := ih h.2
    have := Int.mul_pos h.1 (show 0 < prod l by omega)
    simp only [prod]
    omega
theorem satM_mul {p q : Int} (hp : 1 ≤ p) (hq : 1 ≤ q) : satM (satM p * q) = satM (p * q) := by
  have h1 : p * 1 ≤ p * q := Int.mul_le_mul_of_nonneg_left hq (by omega)
  unfold satM
  by_cases h : p > 4611686018427387904
  · rw [if_pos h]
    generalize p * q = pq at h1
    rw [if_pos (show pq > 4611686018427387904 by omega)]
    split <;> omega
  · rw [if_neg h]
theorem satM_pos {p : Int} (hp : 1 ≤ p) : 1 ≤ satM p ∧ satM p ≤ 4611686018427387904 := by unfold satM; split <;> omega
theorem fold_prod {l : List Int} (h : allPos l = true) : fold l = satM (prod l) := by
  have key : ∀ (l : List Int) (a : Int), allPos l = true → 1 ≤ a ∧ a ≤ 4611686018427387904 → l.foldl (fun n x => if n * x > 4611686018427387904 then 4611686018427387904 else n * x) a = satM (a * prod l) := by
    intro l
    induction l with
    | nil =>
      intro a _ ha
      simp only [List.foldl_nil, prod, Int.mul_one, satM]
      rw [if_neg (by omega)]
    | cons x l ih =>
      intro a hl ha
      have hl' := hl
      simp only [allPos, List.all_cons, Bool.and_eq_true, decide_eq_true_eq] at hl
      have hx : 0 < a * x := Int.mul_pos (by omega) hl.1
      rw [List.foldl_cons]
      have h1 := ih (satM (a * x)) hl.2 (satM_pos (by omega))
      have e : (if a * x > 4611686018427387904 then 4611686018427387904 else a * x) = satM (a * x) := rfl
      rw [e, h1, satM_mul (by omega) (prod_pos hl.2)]
      simp only [prod, Int.mul_assoc]
  have := key l 1 h (by omega)
  rw [Int.one_mul] at this
  exact this
theorem satTimes_eq (l : List Int) : satTimes l = if allPos l then satM (prod l) else 0 := by
  unfold satTimes
  split
  · rename_i h; exact fold_prod h
  · rfl
theorem satSum_eq (l : List Int) : satSum l = satM (posSum l) := rfl
theorem allPos_append (a b : List Int) : allPos (a ++ b) = (allPos a && allPos b) := by simp [allPos]

/-- Turned by w. -/
def rot (l : List Int) (w : Nat) : List Int := l.drop w ++ l.take w
theorem rot_len {l : List Int} {w : Nat} : (rot l w).length = l.length := by simp [rot]; omega
theorem rot_get {l : List Int} {w k : Nat} (hw : w < l.length) (hk : k < l.length) : (rot l w)[k]? = l[(k + w) % l.length]? := by
  unfold rot
  by_cases h : k < l.length - w
  · rw [List.getElem?_append_left (by simp; omega), List.getElem?_drop, Nat.mod_eq_of_lt (by omega), Nat.add_comm]
  · have e : (k + w) % l.length = k + w - l.length := by rw [Nat.mod_eq_sub_mod (by omega), Nat.mod_eq_of_lt (by omega)]
    rw [List.getElem?_append_right (by simp; omega), e, List.getElem?_take_of_lt (by simp; omega)]
    congr 1
    simp
    omega
theorem rot_in {l : List Int} {w : Nat} (hl : In64 l) : In64 (rot l w) := by
  intro x hx
  rcases List.mem_append.1 hx with h | h
  · exact hl x (List.mem_of_mem_drop h)
  · exact hl x (List.mem_of_mem_take h)
theorem satSum_rot (l : List Int) (w : Nat) : satSum (rot l w) = satSum l := by
  rw [satSum_eq, satSum_eq, rot, posSum_append, Int.add_comm, ← posSum_append, List.take_append_drop]
theorem satTimes_rot (l : List Int) (w : Nat) : satTimes (rot l w) = satTimes l := by
  rw [satTimes_eq, satTimes_eq, rot, prod_append, Int.mul_comm, ← prod_append, allPos_append, Bool.and_comm, ← allPos_append, List.take_append_drop]

theorem satSum_parts (a b : List Int) : satSum [satSum a, satSum b] = satSum (a ++ b) := by
  have h1 := posSum_nonneg a
  have h2 := posSum_nonneg b
  simp only [satSum_eq, posSum_append, posSum]
  generalize posSum a = p at *
  generalize posSum b = q at *
  unfold satM
  (repeat' split) <;> omega
theorem satTimes_parts (a b : List Int) : satTimes [satTimes a, satTimes b] = satTimes (a ++ b) := by
  simp only [satTimes_eq, prod_append, allPos_append]
  cases ha : allPos a with
  | false => simp [allPos]
  | true =>
    cases hb : allPos b with
    | false => simp [allPos]
    | true =>
      have p1 := prod_pos ha
      have q1 := prod_pos hb
      have p2 := satM_pos p1
      have q2 := satM_pos q1
      have e : allPos [satM (prod a), satM (prod b)] = true := by simp [allPos]; omega
      simp only [if_true, e, Bool.and_self, prod, Int.mul_one]
      rw [satM_mul p1 q2.1, Int.mul_comm, satM_mul q1 p1, Int.mul_comm]

theorem posSum_ge {l : List Int} {k : Nat} {x : Int} (hk : l[k]? = some x) : x ≤ posSum l := by
  have h1 := posSum_take hk
  have h2 := posSum_le (l := l) (k + 1)
  have h3 := posSum_nonneg (l.take k)
  split at h1 <;> omega
theorem satSum_ge {l : List Int} {k : Nat} {x : Int} (hk : l[k]? = some x) : ¬ (satSum l < x) ∨ satSum l = 4611686018427387904 := by
  have := posSum_ge hk
  unfold satSum
  split <;> omega
theorem prod_ge {l : List Int} {k : Nat} {x : Int} (h : allPos l = true) (hk : l[k]? = some x) : x ≤ prod l := by
  induction l generalizing k with
  | nil => simp at hk
  | cons y l ih =>
    simp only [allPos, List.all_cons, Bool.and_eq_true, decide_eq_true_eq] at h
    have hp := prod_pos h.2
    cases k with
    | zero =>
      simp only [List.getElem?_cons_zero, Option.some.injEq] at hk
      subst hk
      have := Int.mul_le_mul_of_nonneg_left hp (show 0 ≤ y by omega)
      simp only [prod]
      omega
    | succ k =>
      have h1 := ih h.2 hk
      have := Int.mul_le_mul_of_nonneg_right (show 1 ≤ y by omega) (show 0 ≤ prod l by omega)
      simp only [prod]
      omega
theorem satTimes_ge {l : List Int} {k : Nat} {x : Int} (h : allPos l = true) (hk : l[k]? = some x) : ¬ (satTimes l < x) ∨ satTimes l = 4611686018427387904 := by
  have := prod_ge h hk
  rw [satTimes_eq, h]
  simp only [if_true, satM]
  split <;> omega
theorem satSum_range (l : List Int) : 0 ≤ satSum l ∧ satSum l ≤ 4611686018427387904 := by
  have := posSum_nonneg l
  unfold satSum
  split <;> omega
end Go.Proofs.YtdhehcalmjcpgaaDoor
