/- Part 22 of what the claim leans on: 3 texts laid one behind another. -/
import Derived.Test.YtipekdhneagdbaaDoorC21
namespace Go.Proofs.YtipekdhneagdbaaDoor
open Go Go.Sx
set_option maxRecDepth 100000
set_option linter.unusedSimpArgs false
set_option linter.unusedVariables false
instance : DecidableEq RowN := fun _ _ => decidable_of_decidable_of_iff J6E
def fsEqP : List (Bool × Bool × List Operand) := [(false, true, []), (false, true, []), (false, true, []), (false, true, []), (false, true, [.tmp 18]), (false, true, [.tmp 18]), (false, true, [.tmp 18]), (false, true, [.tmp 18]), (false, false, [])]
noncomputable def opseqI : Array Oper := J18 Tryd.f69 6
theorem flagseqI : J1E opseqI = fsEqP := by kernel_rfl
set_option maxHeartbeats 4000000 in
theorem eqI_walk {call : J0r} {N : Nat} {h : SHeap} (hsn : J1G call) {va vb : Value} {A B : List Int} {la lb : Nat} (ha : J1S la h va A) (hb : J1S lb h vb B) (hN : A.length + 3 < N) (hl : A.length < 1099511627776) : J0L Tryd.prog call N 69 [va, vb] h = some (.bool (decide (A = B)), h) := by
 refine J1m Tryd.func69 rfl (by simp [Tryd.f69]) ?_
 have hr : Tryd.f69.results.toList = [.tmp 4] := rfl
 have lA := fun h' => JfF ha h'
 have lB := fun h' => JfF hb h'
 cases d : ((A.length : Int) != (B.length : Int)) with
 | true =>
  have hne : A ≠ B := fun e => by subst e; simp at d
  rw [decide_eq_false hne]
  simp only [evC, ↓reduceIte, Nat.reduceEqDiff, reduceCtorEq, ↓evP, hr, lA, lB, d]
 | false =>
  have hlen : A.length = B.length := by
   have h9 : (A.length : Int) = (B.length : Int) := by simpa using d
   omega
  simp only [evC, ↓reduceIte, Nat.reduceEqDiff, reduceCtorEq, ↓evP, lA, lB, d]
  refine WK.loop (fun i s' => s'.T.get 0 = va ∧ s'.T.get 1 = vb ∧ s'.T.get 12 = iv A.length ∧ s'.T.get 13 = iv i ∧ s'.h = h ∧ i ≤ A.length ∧ ∀ j, j < i → A[j]? = B[j]?) A.length (by omega) ?_ ?_
  ·exact ⟨by simp only [evC, ↓reduceIte, Nat.reduceEqDiff, reduceCtorEq, ↓evP, rpC, Nat.reduceAdd, Nat.reduceLT], by simp only [evC, ↓reduceIte, Nat.reduceEqDiff, reduceCtorEq, ↓evP, rpC, Nat.reduceAdd, Nat.reduceLT], by simp only [evC, ↓reduceIte, Nat.reduceEqDiff, reduceCtorEq, ↓evP, rpC, Nat.reduceAdd, Nat.reduceLT], by simp only [evC, ↓reduceIte, Nat.reduceEqDiff, reduceCtorEq, ↓evP, rpC, Nat.reduceAdd, Nat.reduceLT]; rfl, rfl, by omega, fun j hj => by omega⟩
  ·rintro i ⟨T1, H1⟩ hi ⟨t0, t1, t12, t13, hh, hil, hsame⟩
   simp only at t0 t1 t12 t13 hh
   subst hh
   by_cases hlt : i < A.length
   ·have c1 : decide ((i : Int) < (A.length : Int)) = true := by simp; omega
    obtain ⟨x, hx⟩ : ∃ x, A[i]? = some x := ⟨_, List.getElem?_eq_getElem hlt⟩
    obtain ⟨y, hy⟩ : ∃ y, B[i]? = some y := ⟨_, List.getElem?_eq_getElem (by omega)⟩
    obtain ⟨ida, pa, ea, _, xa⟩ := J1S.get ha hx
    obtain ⟨idb, pb, eb, _, xb⟩ := J1S.get hb hy
    have w1 : IntKind.i64.wrap ((i : Int) + 1) = ((i + 1 : Nat) : Int) := J0s (by omega) (by omega)
    simp only [evC, seval, ↓evP, t0, t1, t12, t13, c1]
    refine WK.flags (ops := opseqI) flagseqI ?_
    refine WKF.begin ?_
    have FF := And.intro @t0 (And.intro @t1 (And.intro @t12 (And.intro @t13 (And.intro @ea (And.intro @eb (And.intro @J0m (And.intro @xa (And.intro @xb @J4h))))))))
    refine wst hsn 0 (some 16) (.move (.tmp 0)) none ?_
    simp only [rgC, seval, J04, J02, WKFC, FF]
    refine wst hsn 1 (some 17) (.move (.tmp 5)) none ?_
    simp only [rgC, seval, J04, J02, WKFC, FF]
    refine wst hsn 2 (some 18) (.indexAddr 28 (.tmp 16) (.tmp 17)) none ?_
    simp only [rgC, seval, J04, J02, WKFC, Nat.zero_add, FF]
    refine wst hsn 3 (some 19) (.load 3 (.tmp 18)) none ?_
    simp only [rgC, seval, J04, J02, WKFC, rgL, FF]
    refine wst hsn 4 (some 20) (.move (.tmp 1)) none ?_
    simp only [rgC, seval, J04, J02, WKFC, FF]
    refine wst hsn 5 (some 21) (.move (.tmp 5)) none ?_
    simp only [rgC, seval, J04, J02, WKFC, FF]
    refine wst hsn 6 (some 22) (.indexAddr 28 (.tmp 20) (.tmp 21)) none ?_
    simp only [rgC, seval, J04, J02, WKFC, Nat.zero_add, FF]
    refine wst hsn 7 (some 23) (.load 3 (.tmp 22)) none ?_
    simp only [rgC, seval, J04, J02, WKFC, rgL, FF]
    refine wst hsn 8 (some 24) (.binOp .neq 3 (.tmp 19) (.tmp 23) 3) none ?_
    simp only [rgC, seval, J04, J02, WKFC, rgB, FF]
    refine WKF.done (i := 9) (by kernel_rfl) ?_
    clear FF
    cases e : (x != y) with
    | true =>
     have hne : A ≠ B := fun h9 => by
      subst h9
      rw [hx] at hy
      cases hy
      simp at e
     rw [decide_eq_false hne]
     simp only [evC, seval, ↓evP, hr, e]
    | false =>
     have hxy : x = y := by simpa using e
     simp only [evC, seval, ↓evP, t0, t1, t12, t13, e, w1]
     refine ⟨by omega, by omega, fun j hj => ?_⟩
     rcases Nat.lt_or_ge j i with h1 | h1
     ·exact hsame j h1
     ·have : j = i := by omega
      subst this
      rw [hx, hy, hxy]
   ·have c1 : decide ((i : Int) < (A.length : Int)) = false := by simp; omega
    have : i = A.length := by omega
    subst this
    have hAB : A = B := J4S hlen hsame
    rw [decide_eq_true hAB]
    simp only [evC, seval, ↓evP, hr, t0, t1, t12, t13, c1]
theorem k_eqI {n : Nat} {h : SHeap} {va vb : Value} {A B : List Int} {la lb : Nat} (ha : J1S la h va A) (hb : J1S lb h vb B) (hl : A.length < 1000000000) (hn : A.length + 5 < n) : J0T n 69 [va, vb] h = some (.bool (decide (A = B)), h) := by
 obtain ⟨n, rfl⟩ : ∃ j, n = j + 1 := ⟨n - 1, by omega⟩
 exact J6r (J13 ⟨rfl, rfl, rfl⟩) rfl (eqI_walk (J1z n).2 ha hb (by omega) (by omega))
noncomputable def opseqT : Array Oper := J18 Tryd.f68 6
theorem flagseqT : J1E opseqT = fsEqP := by kernel_rfl
set_option maxHeartbeats 4000000 in
theorem eqT_walk {call : J0r} {N : Nat} {h : SHeap} (hsn : J1G call) {va vb : Value} {A B : List ByteArray} {la lb : Nat} (ha : J0p la h va A.length 1 (strs A)) (hb : J0p lb h vb B.length 1 (strs B)) (hN : A.length + 3 < N) (hl : A.length < 1099511627776) : J0L Tryd.prog call N 68 [va, vb] h = some (.bool (decide (A = B)), h) := by
 refine J1m Tryd.func68 rfl (by simp [Tryd.f68]) ?_
 have hr : Tryd.f68.results.toList = [.tmp 4] := rfl
 have lA := fun h' => JfT ha h'
 have lB := fun h' => JfT hb h'
 cases d : ((A.length : Int) != (B.length : Int)) with
 | true =>
  have hne : A ≠ B := fun e => by subst e; simp at d
  rw [decide_eq_false hne]
  simp only [evC, ↓reduceIte, Nat.reduceEqDiff, reduceCtorEq, ↓evP, hr, lA, lB, d]
 | false =>
  have hlen : A.length = B.length := by
   have h9 : (A.length : Int) = (B.length : Int) := by simpa using d
   omega
  simp only [evC, ↓reduceIte, Nat.reduceEqDiff, reduceCtorEq, ↓evP, lA, lB, d]
  refine WK.loop (fun i s' => s'.T.get 0 = va ∧ s'.T.get 1 = vb ∧ s'.T.get 12 = iv A.length ∧ s'.T.get 13 = iv i ∧ s'.h = h ∧ i ≤ A.length ∧ ∀ j, j < i → A[j]? = B[j]?) A.length (by omega) ?_ ?_
  ·exact ⟨by simp only [evC, ↓reduceIte, Nat.reduceEqDiff, reduceCtorEq, ↓evP, rpC, Nat.reduceAdd, Nat.reduceLT], by simp only [evC, ↓reduceIte, Nat.reduceEqDiff, reduceCtorEq, ↓evP, rpC, Nat.reduceAdd, Nat.reduceLT], by simp only [evC, ↓reduceIte, Nat.reduceEqDiff, reduceCtorEq, ↓evP, rpC, Nat.reduceAdd, Nat.reduceLT], by simp only [evC, ↓reduceIte, Nat.reduceEqDiff, reduceCtorEq, ↓evP, rpC, Nat.reduceAdd, Nat.reduceLT]; rfl, rfl, by omega, fun j hj => by omega⟩
  ·rintro i ⟨T1, H1⟩ hi ⟨t0, t1, t12, t13, hh, hil, hsame⟩
   simp only at t0 t1 t12 t13 hh
   subst hh
   by_cases hlt : i < A.length
   ·have c1 : decide ((i : Int) < (A.length : Int)) = true := by simp; omega
    obtain ⟨x, hx⟩ : ∃ x, A[i]? = some x := ⟨_, List.getElem?_eq_getElem hlt⟩
    obtain ⟨y, hy⟩ : ∃ y, B[i]? = some y := ⟨_, List.getElem?_eq_getElem (by omega)⟩
    obtain ⟨ida, pa, ea, _, xa⟩ := Ja3 hx ha
    obtain ⟨idb, pb, eb, _, xb⟩ := Ja3 hy hb
    have w1 : IntKind.i64.wrap ((i : Int) + 1) = ((i + 1 : Nat) : Int) := J0s (by omega) (by omega)
    simp only [evC, seval, ↓evP, t0, t1, t12, t13, c1]
    refine WK.flags (ops := opseqT) flagseqT ?_
    refine WKF.begin ?_
    have FF := And.intro @t0 (And.intro @t1 (And.intro @t12 (And.intro @t13 (And.intro @ea (And.intro @eb (And.intro @J0d (And.intro @xa (And.intro @xb @J26))))))))
    refine wst hsn 0 (some 16) (.move (.tmp 0)) none ?_
    simp only [rgC, seval, J04, J02, WKFC, FF]
    refine wst hsn 1 (some 17) (.move (.tmp 5)) none ?_
    simp only [rgC, seval, J04, J02, WKFC, FF]
    refine wst hsn 2 (some 18) (.indexAddr 27 (.tmp 16) (.tmp 17)) none ?_
    simp only [rgC, seval, J04, J02, WKFC, Nat.zero_add, FF]
    refine wst hsn 3 (some 19) (.load 9 (.tmp 18)) none ?_
    simp only [rgC, seval, J04, J02, WKFC, rgL, FF]
    refine wst hsn 4 (some 20) (.move (.tmp 1)) none ?_
    simp only [rgC, seval, J04, J02, WKFC, FF]
    refine wst hsn 5 (some 21) (.move (.tmp 5)) none ?_
    simp only [rgC, seval, J04, J02, WKFC, FF]
    refine wst hsn 6 (some 22) (.indexAddr 27 (.tmp 20) (.tmp 21)) none ?_
    simp only [rgC, seval, J04, J02, WKFC, Nat.zero_add, FF]
    refine wst hsn 7 (some 23) (.load 9 (.tmp 22)) none ?_
    simp only [rgC, seval, J04, J02, WKFC, rgL, FF]
    refine wst hsn 8 (some 24) (.binOp .neq 9 (.tmp 19) (.tmp 23) 9) none ?_
    simp only [rgC, seval, J04, J02, WKFC, rgB, FF]
    refine WKF.done (i := 9) (by kernel_rfl) ?_
    clear FF
    cases e : (!(x == y)) with
    | true =>
     have hne : A ≠ B := fun h9 => by
      subst h9
      rw [hx] at hy
      cases hy
      rw [J34] at e; cases e
     rw [decide_eq_false hne]
     simp only [evC, seval, ↓evP, hr, e]
    | false =>
     have hxy : x = y := J3o (by simpa using e)
     simp only [evC, seval, ↓evP, t0, t1, t12, t13, e, w1]
     refine ⟨by omega, by omega, fun j hj => ?_⟩
     rcases Nat.lt_or_ge j i with h1 | h1
     ·exact hsame j h1
     ·have : j = i := by omega
      subst this
      rw [hx, hy, hxy]
   ·have c1 : decide ((i : Int) < (A.length : Int)) = false := by simp; omega
    have : i = A.length := by omega
    subst this
    have hAB : A = B := J4S hlen hsame
    rw [decide_eq_true hAB]
    simp only [evC, seval, ↓evP, hr, t0, t1, t12, t13, c1]
theorem k_eqT {n : Nat} {h : SHeap} {va vb : Value} {A B : List ByteArray} {la lb : Nat} (ha : J0p la h va A.length 1 (strs A)) (hb : J0p lb h vb B.length 1 (strs B)) (hl : A.length < 1000000000) (hn : A.length + 5 < n) : J0T n 68 [va, vb] h = some (.bool (decide (A = B)), h) := by
 obtain ⟨n, rfl⟩ : ∃ j, n = j + 1 := ⟨n - 1, by omega⟩
 exact J6r (J13 ⟨rfl, rfl, rfl⟩) rfl (eqT_walk (J1z n).2 ha hb (by omega) (by omega))
noncomputable def opseqQ : Array Oper := J18 Tryd.f67 6
theorem flagseqQ : J1E opseqQ = fsEqP := by kernel_rfl
set_option maxHeartbeats 4000000 in
theorem eqQ_walk {call : J0r} {N : Nat} {h : SHeap} (hsn : J1G call) {va vb : Value} {A B : List (ByteArray × Bool)} {la lb : Nat} (ha : J0p la h va A.length 2 (J3S A)) (hb : J0p lb h vb B.length 2 (J3S B)) (hN : A.length + 3 < N) (hl : A.length < 1099511627776) : J0L Tryd.prog call N 67 [va, vb] h = some (.bool (decide (A = B)), h) := by
 refine J1m Tryd.func67 rfl (by simp [Tryd.f67]) ?_
 have hr : Tryd.f67.results.toList = [.tmp 4] := rfl
 have lA := fun h' => JfC ha h'
 have lB := fun h' => JfC hb h'
 cases d : ((A.length : Int) != (B.length : Int)) with
 | true =>
  have hne : A ≠ B := fun e => by subst e; simp at d
  rw [decide_eq_false hne]
  simp only [evC, ↓reduceIte, Nat.reduceEqDiff, reduceCtorEq, ↓evP, hr, lA, lB, d]
 | false =>
  have hlen : A.length = B.length := by
   have h9 : (A.length : Int) = (B.length : Int) := by simpa using d
   omega
  simp only [evC, ↓reduceIte, Nat.reduceEqDiff, reduceCtorEq, ↓evP, lA, lB, d]
  refine WK.loop (fun i s' => s'.T.get 0 = va ∧ s'.T.get 1 = vb ∧ s'.T.get 12 = iv A.length ∧ s'.T.get 13 = iv i ∧ s'.h = h ∧ i ≤ A.length ∧ ∀ j, j < i → A[j]? = B[j]?) A.length (by omega) ?_ ?_
  ·exact ⟨by simp only [evC, ↓reduceIte, Nat.reduceEqDiff, reduceCtorEq, ↓evP, rpC, Nat.reduceAdd, Nat.reduceLT], by simp only [evC, ↓reduceIte, Nat.reduceEqDiff, reduceCtorEq, ↓evP, rpC, Nat.reduceAdd, Nat.reduceLT], by simp only [evC, ↓reduceIte, Nat.reduceEqDiff, reduceCtorEq, ↓evP, rpC, Nat.reduceAdd, Nat.reduceLT], by simp only [evC, ↓reduceIte, Nat.reduceEqDiff, reduceCtorEq, ↓evP, rpC, Nat.reduceAdd, Nat.reduceLT]; rfl, rfl, by omega, fun j hj => by omega⟩
  ·rintro i ⟨T1, H1⟩ hi ⟨t0, t1, t12, t13, hh, hil, hsame⟩
   simp only at t0 t1 t12 t13 hh
   subst hh
   by_cases hlt : i < A.length
   ·have c1 : decide ((i : Int) < (A.length : Int)) = true := by simp; omega
    obtain ⟨x, hx⟩ : ∃ x, A[i]? = some x := ⟨_, List.getElem?_eq_getElem hlt⟩
    obtain ⟨y, hy⟩ : ∃ y, B[i]? = some y := ⟨_, List.getElem?_eq_getElem (by omega)⟩
    obtain ⟨ida, pa, ea, _, xa⟩ := J8S hx ha
    obtain ⟨idb, pb, eb, _, xb⟩ := J8S hy hb
    have w1 : IntKind.i64.wrap ((i : Int) + 1) = ((i + 1 : Nat) : Int) := J0s (by omega) (by omega)
    simp only [evC, seval, ↓evP, t0, t1, t12, t13, c1]
    refine WK.flags (ops := opseqQ) flagseqQ ?_
    refine WKF.begin ?_
    have FF := And.intro @t0 (And.intro @t1 (And.intro @t12 (And.intro @t13 (And.intro @ea (And.intro @eb (And.intro @J3z (And.intro @xa (And.intro @xb @J6H))))))))
    refine wst hsn 0 (some 16) (.move (.tmp 0)) none ?_
    simp only [rgC, seval, J04, J02, WKFC, FF]
    refine wst hsn 1 (some 17) (.move (.tmp 5)) none ?_
    simp only [rgC, seval, J04, J02, WKFC, FF]
    refine wst hsn 2 (some 18) (.indexAddr 26 (.tmp 16) (.tmp 17)) none ?_
    simp only [rgC, seval, J04, J02, WKFC, Nat.zero_add, FF]
    refine wst hsn 3 (some 19) (.load 57 (.tmp 18)) none ?_
    simp only [rgC, seval, J04, J02, WKFC, rgL, FF]
    refine wst hsn 4 (some 20) (.move (.tmp 1)) none ?_
    simp only [rgC, seval, J04, J02, WKFC, FF]
    refine wst hsn 5 (some 21) (.move (.tmp 5)) none ?_
    simp only [rgC, seval, J04, J02, WKFC, FF]
    refine wst hsn 6 (some 22) (.indexAddr 26 (.tmp 20) (.tmp 21)) none ?_
    simp only [rgC, seval, J04, J02, WKFC, Nat.zero_add, FF]
    refine wst hsn 7 (some 23) (.load 57 (.tmp 22)) none ?_
    simp only [rgC, seval, J04, J02, WKFC, rgL, FF]
    refine wst hsn 8 (some 24) (.binOp .neq 57 (.tmp 19) (.tmp 23) 57) none ?_
    simp only [rgC, seval, J04, J02, WKFC, rgB, FF]
    refine WKF.done (i := 9) (by kernel_rfl) ?_
    clear FF
    cases e : (!(x.1 == y.1 && x.2 == y.2)) with
    | true =>
     have hne : A ≠ B := fun h9 => by
      subst h9
      rw [hx] at hy
      cases hy
      rw [J34] at e; simp at e
     rw [decide_eq_false hne]
     simp only [evC, seval, ↓evP, hr, e]
    | false =>
     have hxy : x = y := (by simp only [Bool.not_eq_false', Bool.and_eq_true] at e; exact Prod.ext (J3o e.1) (by simpa using e.2))
     simp only [evC, seval, ↓evP, t0, t1, t12, t13, e, w1]
     refine ⟨by omega, by omega, fun j hj => ?_⟩
     rcases Nat.lt_or_ge j i with h1 | h1
     ·exact hsame j h1
     ·have : j = i := by omega
      subst this
      rw [hx, hy, hxy]
   ·have c1 : decide ((i : Int) < (A.length : Int)) = false := by simp; omega
    have : i = A.length := by omega
    subst this
    have hAB : A = B := J4S hlen hsame
    rw [decide_eq_true hAB]
    simp only [evC, seval, ↓evP, hr, t0, t1, t12, t13, c1]
theorem k_eqQ {n : Nat} {h : SHeap} {va vb : Value} {A B : List (ByteArray × Bool)} {la lb : Nat} (ha : J0p la h va A.length 2 (J3S A)) (hb : J0p lb h vb B.length 2 (J3S B)) (hl : A.length < 1000000000) (hn : A.length + 5 < n) : J0T n 67 [va, vb] h = some (.bool (decide (A = B)), h) := by
 obtain ⟨n, rfl⟩ : ∃ j, n = j + 1 := ⟨n - 1, by omega⟩
 exact J6r (J13 ⟨rfl, rfl, rfl⟩) rfl (eqQ_walk (J1z n).2 ha hb (by omega) (by omega))
theorem lenRc {h : SHeap} {v : Value} {l : List RowN} (hv : J0l h v l) (h' : SHeap) : lenS Tryd.prog h' 22 v = some (iv (l.length : Int)) := hv.len
noncomputable def opseqR : Array Oper := J18 Tryd.f66 6
theorem flagseqR : J1E opseqR = fsEqP := by kernel_rfl
set_option maxHeartbeats 4000000 in
theorem eqR_walk {call : J0r} {N : Nat} {h : SHeap} (hsn : J1G call) {va vb : Value} {A B : List RowN} (ha : J0l h va A) (hb : J0l h vb B) (hN : A.length + 3 < N) (hl : A.length < 1099511627776) : J0L Tryd.prog call N 66 [va, vb] h = some (.bool (decide (A = B)), h) := by
 refine J1m Tryd.func66 rfl (by simp [Tryd.f66]) ?_
 have hr : Tryd.f66.results.toList = [.tmp 4] := rfl
 have lA := fun h' => lenRc ha h'
 have lB := fun h' => lenRc hb h'
 cases d : ((A.length : Int) != (B.length : Int)) with
 | true =>
  have hne : A ≠ B := fun e => by subst e; simp at d
  rw [decide_eq_false hne]
  simp only [evC, ↓reduceIte, Nat.reduceEqDiff, reduceCtorEq, ↓evP, hr, lA, lB, d]
 | false =>
  have hlen : A.length = B.length := by
   have h9 : (A.length : Int) = (B.length : Int) := by simpa using d
   omega
  simp only [evC, ↓reduceIte, Nat.reduceEqDiff, reduceCtorEq, ↓evP, lA, lB, d]
  refine WK.loop (fun i s' => s'.T.get 0 = va ∧ s'.T.get 1 = vb ∧ s'.T.get 12 = iv A.length ∧ s'.T.get 13 = iv i ∧ s'.h = h ∧ i ≤ A.length ∧ ∀ j, j < i → A[j]? = B[j]?) A.length (by omega) ?_ ?_
  ·exact ⟨by simp only [evC, ↓reduceIte, Nat.reduceEqDiff, reduceCtorEq, ↓evP, rpC, Nat.reduceAdd, Nat.reduceLT], by simp only [evC, ↓reduceIte, Nat.reduceEqDiff, reduceCtorEq, ↓evP, rpC, Nat.reduceAdd, Nat.reduceLT], by simp only [evC, ↓reduceIte, Nat.reduceEqDiff, reduceCtorEq, ↓evP, rpC, Nat.reduceAdd, Nat.reduceLT], by simp only [evC, ↓reduceIte, Nat.reduceEqDiff, reduceCtorEq, ↓evP, rpC, Nat.reduceAdd, Nat.reduceLT]; rfl, rfl, by omega, fun j hj => by omega⟩
  ·rintro i ⟨T1, H1⟩ hi ⟨t0, t1, t12, t13, hh, hil, hsame⟩
   simp only at t0 t1 t12 t13 hh
   subst hh
   by_cases hlt : i < A.length
   ·have c1 : decide ((i : Int) < (A.length : Int)) = true := by simp; omega
    obtain ⟨x, hx⟩ : ∃ x, A[i]? = some x := ⟨_, List.getElem?_eq_getElem hlt⟩
    obtain ⟨y, hy⟩ : ∃ y, B[i]? = some y := ⟨_, List.getElem?_eq_getElem (by omega)⟩
    obtain ⟨ida, pa, ea, _, _, _, _, _, _, xa9⟩ := J0l.row ha hx
    have xa : ldN 5 pa (H1.get ida) = some (rowV x) := xa9
    obtain ⟨idb, pb, eb, _, _, _, _, _, _, xb9⟩ := J0l.row hb hy
    have xb : ldN 5 pb (H1.get idb) = some (rowV y) := xb9
    have w1 : IntKind.i64.wrap ((i : Int) + 1) = ((i + 1 : Nat) : Int) := J0s (by omega) (by omega)
    simp only [evC, seval, ↓evP, t0, t1, t12, t13, c1]
    refine WK.flags (ops := opseqR) flagseqR ?_
    refine WKF.begin ?_
    have FF := And.intro @t0 (And.intro @t1 (And.intro @t12 (And.intro @t13 (And.intro @ea (And.intro @eb (And.intro @J0u (And.intro @xa (And.intro @xb @J6U))))))))
    refine wst hsn 0 (some 16) (.move (.tmp 0)) none ?_
    simp only [rgC, seval, J04, J02, WKFC, FF]
    refine wst hsn 1 (some 17) (.move (.tmp 5)) none ?_
    simp only [rgC, seval, J04, J02, WKFC, FF]
    refine wst hsn 2 (some 18) (.indexAddr 22 (.tmp 16) (.tmp 17)) none ?_
    simp only [rgC, seval, J04, J02, WKFC, Nat.zero_add, FF]
    refine wst hsn 3 (some 19) (.load 46 (.tmp 18)) none ?_
    simp only [rgC, seval, J04, J02, WKFC, rgL, FF]
    refine wst hsn 4 (some 20) (.move (.tmp 1)) none ?_
    simp only [rgC, seval, J04, J02, WKFC, FF]
    refine wst hsn 5 (some 21) (.move (.tmp 5)) none ?_
    simp only [rgC, seval, J04, J02, WKFC, FF]
    refine wst hsn 6 (some 22) (.indexAddr 22 (.tmp 20) (.tmp 21)) none ?_
    simp only [rgC, seval, J04, J02, WKFC, Nat.zero_add, FF]
    refine wst hsn 7 (some 23) (.load 46 (.tmp 22)) none ?_
    simp only [rgC, seval, J04, J02, WKFC, rgL, FF]
    refine wst hsn 8 (some 24) (.binOp .neq 46 (.tmp 19) (.tmp 23) 46) none ?_
    simp only [rgC, seval, J04, J02, WKFC, rgB, FF]
    refine WKF.done (i := 9) (by kernel_rfl) ?_
    clear FF
    cases e : (!(J5z x y)) with
    | true =>
     have hne : A ≠ B := fun h9 => by
      subst h9
      rw [hx] at hy
      cases hy
      rw [J6E.2 rfl] at e; cases e
     rw [decide_eq_false hne]
     simp only [evC, seval, ↓evP, hr, e]
    | false =>
     have hxy : x = y := J6E.1 (by simpa using e)
     simp only [evC, seval, ↓evP, t0, t1, t12, t13, e, w1]
     refine ⟨by omega, by omega, fun j hj => ?_⟩
     rcases Nat.lt_or_ge j i with h1 | h1
     ·exact hsame j h1
     ·have : j = i := by omega
      subst this
      rw [hx, hy, hxy]
   ·have c1 : decide ((i : Int) < (A.length : Int)) = false := by simp; omega
    have : i = A.length := by omega
    subst this
    have hAB : A = B := J4S hlen hsame
    rw [decide_eq_true hAB]
    simp only [evC, seval, ↓evP, hr, t0, t1, t12, t13, c1]
theorem k_eqR {n : Nat} {h : SHeap} {va vb : Value} {A B : List RowN} (ha : J0l h va A) (hb : J0l h vb B) (hl : A.length < 1000000000) (hn : A.length + 5 < n) : J0T n 66 [va, vb] h = some (.bool (decide (A = B)), h) := by
 obtain ⟨n, rfl⟩ : ∃ j, n = j + 1 := ⟨n - 1, by omega⟩
 exact J6r (J13 ⟨rfl, rfl, rfl⟩) rfl (eqR_walk (J1z n).2 ha hb (by omega) (by omega))
theorem Jey {call : J0r} {N : Nat} {h : SHeap} {l : List RowN} {v : Value} (hv : J0l h v l) : J0L Tryd.prog call N 13 [v] h = some (.bool (decide ((l.length : Int) > 65536)), h) := by
 refine J1m Tryd.func13 rfl (by simp [Tryd.f13]) ?_
 have hr : Tryd.f13.results.toList = [.tmp 2] := rfl
 have hlen := fun h' => hv.len (h' := h')
 simp only [evC, seval, ↓evP, hr, hlen]
theorem JiW {n : Nat} {h : SHeap} {l : List RowN} {v : Value} (hv : J0l h v l) (hn : 0 < n) : J0T n 13 [v] h = some (.bool (decide ((l.length : Int) > 65536)), h) := by
 obtain ⟨n, rfl⟩ : ∃ j, n = j + 1 := ⟨n - 1, by omega⟩
 exact J6r (J13 ⟨rfl, rfl, rfl⟩) rfl (Jey hv)
theorem JhO {l : List RowN} (h : (resN l).1.1 = 0) : J2c l ∧ (J0v l).1 = 0 ∧ (goN (J0o l) l.length 0 (s0N l)).1 = 0 ∧ ¬ J2K (goN (J0o l) l.length 0 (s0N l)).2.2.rows (J0o l) (goN (J0o l) l.length 0 (s0N l)).2.2.rules ≥ 0 ∧
  resN l = ((0, 0), (goN (J0o l) l.length 0 (s0N l)).2.2) ∧ InvR l l.length (resN l).2 := by
 by_cases h1 : (J0v l).1 ≠ 0
 ·unfold resN at h
  rw [if_pos h1] at h
  exact absurd h h1
 ·by_cases h2 : (goN (J0o l) l.length 0 (s0N l)).1 ≠ 0
  ·unfold resN at h
   rw [if_neg h1] at h
   simp only at h
   rw [if_pos h2] at h
   exact absurd h h2
  ·by_cases h3 : J2K (goN (J0o l) l.length 0 (s0N l)).2.2.rows (J0o l) (goN (J0o l) l.length 0 (s0N l)).2.2.rules ≥ 0
   ·unfold resN at h
    rw [if_neg h1] at h
    simp only at h
    rw [if_neg h2, if_pos h3] at h
    cases h
   ·have e1 : (J0v l).1 = 0 := by simpa using h1
    have e2 : (goN (J0o l) l.length 0 (s0N l)).1 = 0 := by simpa using h2
    have e : resN l = ((0, 0), (goN (J0o l) l.length 0 (s0N l)).2.2) := by
     unfold resN
     rw [if_neg h1]
     simp only
     rw [if_neg h2, if_neg h3]
    have ht := J8d (J5d e1)
    refine ⟨ht, e1, e2, h3, e, ?_⟩
    rw [e]
    exact JfJ ht J3T l.length 0 (s0N l) (by omega) (inv0 l) e2
theorem Jg8 {l : List RowN} (h : (resN l).1.1 ≠ 0) : outN l = (ByteArray.empty, sZ) := by unfold outN; rw [if_pos h]
theorem JeO {l : List RowN} (h : (resN l).1.1 = 0) : outN l = (J52 l, (resN l).2) := by unfold outN; rw [if_neg (by rw [h]; simp)]
theorem JdR {l : List RowN} (hl : l.length < 900000000) : JdC (outN l).2 ∧ Jbg (outN l).2 ≤ l.length + 200 := by
 by_cases h : (resN l).1.1 = 0
 ·rw [JeO h]
  obtain ⟨_, _, _, _, _, hi⟩ := JhO h
  have hw := hi.wf
  have := hw.q; have := hw.v; have := hw.t; have := hw.u; have := hw.o; have := hi.len
  unfold JdC Jbg
  simp only
  omega
 ·rw [Jg8 h]
  exact ⟨⟨by decide, by decide, by decide, by decide, by decide, by decide⟩, by show 0 ≤ _; omega⟩
theorem J9U {lo : Nat} {H : SHeap} {pv : Value} {nm : ByteArray} {s : StN} {e p : Int} (hp : J3x lo H pv nm s) (hf : H.floor ≤ H.next) :
  ∃ H' : SHeap × SHeap, J0K Tryd.prog ((H.push (.row [.string ByteArray.empty, .slice none 0 0, .slice none 0 0, .slice none 0 0, .slice none 0 0, .slice none 0 0, .slice none 0 0, iv 0] 30 false false)).push (.row [iv 0, iv 0] 33 false false)) 30 (.pointer (some ⟨H.next, 0, none⟩)) pv = some (H'.1) ∧ J0K Tryd.prog H'.1 33 (.pointer (some ⟨H.next + 1, 0, none⟩)) (J2k e p) = some H'.2 ∧
   ldN 8 0 (H'.2.get H.next) = some pv ∧ ldN 2 0 (H'.2.get (H.next + 1)) = some (J2k e p) ∧ H'.2.next = H.next + 2 ∧ H'.2.floor = H.floor ∧ ∀ i, i < H.next → H'.2.get i = H.get i := by
 obtain ⟨vr, vq, vv, vt, vu, vo, rfl, h1, h2, h3, h4, h5, h6⟩ := hp
 have hall : ([.string nm, vr, vq, vv, vt, vu, vo, iv s.miss] : List Value).all one = true := by
  simp only [List.all_cons, List.all_nil, h1.2.one, h2.one, h3.one, h4.one, J0p.one h5, J0p.one h6, J5J, J5K, Bool.and_self]
 have ga := J4c (h := H) (o := .row [.string ByteArray.empty, .slice none 0 0, .slice none 0 0, .slice none 0 0, .slice none 0 0, .slice none 0 0, .slice none 0 0, iv 0] 30 false false) (o' := .row [iv 0, iv 0] 33 false false)
 have gb := J48 (h := H) (o := .row [.string ByteArray.empty, .slice none 0 0, .slice none 0 0, .slice none 0 0, .slice none 0 0, .slice none 0 0, .slice none 0 0, iv 0] 30 false false) (o' := .row [iv 0, iv 0] 33 false false)
 have gold : ∀ i, i < H.next → ((H.push (.row [.string ByteArray.empty, .slice none 0 0, .slice none 0 0, .slice none 0 0, .slice none 0 0, .slice none 0 0, .slice none 0 0, iv 0] 30 false false)).push (.row [iv 0, iv 0] 33 false false)).get i = H.get i := fun i hi => by rw [J06 (by show i < H.next + 1; omega), J06 hi]
 have hnx : ((H.push (.row [.string ByteArray.empty, .slice none 0 0, .slice none 0 0, .slice none 0 0, .slice none 0 0, .slice none 0 0, .slice none 0 0, iv 0] 30 false false)).push (.row [iv 0, iv 0] 33 false false)).next = H.next + 2 := rfl
 have hfx : ((H.push (.row [.string ByteArray.empty, .slice none 0 0, .slice none 0 0, .slice none 0 0, .slice none 0 0, .slice none 0 0, .slice none 0 0, iv 0] 30 false false)).push (.row [iv 0, iv 0] 33 false false)).floor = H.floor := rfl
 generalize (H.push (.row [.string ByteArray.empty, .slice none 0 0, .slice none 0 0, .slice none 0 0, .slice none 0 0, .slice none 0 0, .slice none 0 0, iv 0] 30 false false)).push (.row [iv 0, iv 0] 33 false false) = G at *
 obtain ⟨H', s1, s2, r1, r2, r3, r4⟩ := J4J (a := H.next) (H := G) ⟨ga, gb⟩ rfl (by omega) (by omega) (cs' := [.string nm, vr, vq, vv, vt, vu, vo, iv s.miss]) rfl hall (e' := e) (p' := p)
 refine ⟨⟨_, H'⟩, s1, s2, J9E r1.1 rfl, ?_, by show H'.next = _; omega, by show H'.floor = _; omega, fun i hi => by rw [r4 i (by omega) (by omega), gold i hi]⟩
 rw [r1.2]
 rfl
theorem J8U (nm : ByteArray) (s : StN) : J5b nm nm s s := ⟨rfl, rfl, rfl, rfl, rfl, rfl, rfl, rfl⟩
section
variable {n : Nat} {h : SHeap}
set_option maxHeartbeats 8000000 in
theorem J7H {l : List RowN} {v : Value} (hv : J0l h v l) (h64 : ∀ x ∈ l, x.kids ≤ 9223372036854775807) (hfl : h.floor ≤ h.next) (hg : h.get 0 = J14) (hn0 : 0 < h.next) (hn : 400000 < n) :
  ∃ h', J0L Tryd.prog (Jb4 n) n 3 [v] h = some (.bool true, h') ∧ True := by
 refine J1N (R := fun _ => True) Tryd.func3 rfl (by simp [Tryd.f3]) ?_
 have hr : Tryd.f3.results.toList = [.tmp 2] := rfl
 have hfar := t_k (by decide) (JiW (n := n) hv (by omega))
 cases d : decide ((l.length : Int) > 65536) with
 | true =>
  rw [d] at hfar
  have hhd := JfG (n := n) hg
  simp only [evC, seval, ↓evP, hr, hfar, hhd]
 | false =>
  rw [d] at hfar
  have hl : l.length ≤ 65536 := by
   have := of_decide_eq_false d
   omega
  obtain ⟨h1, hlend, ⟨L, hL⟩, n1, f1, o1⟩ := Jic (n := n) hv (by omega) hfl (by omega)
  have hlend' := t_k (n := n) (by decide) hlend
  have hmine : J0l h1 (.slice (some ⟨h.next, 0, none⟩) l.length (l.length + 9)) l := by
   refine ⟨_, _, rfl, .inr ⟨h.next, 0, _, _, _, _, rfl, hL.g, by omega, fun k r hk => ?_⟩⟩
   have hkl := (List.getElem?_eq_some_iff.1 hk).1
   rw [Nat.zero_add]
   exact J2Y ((hL.own k hkl).trans hk)
  obtain ⟨v2, h2, hres, pv, rfl, hp, f2, n2, o2⟩ := Jia (n := n) (h := h1) (by omega) ((o1 0 hn0).trans hg) (by omega) hmine (by omega) (by omega)
  have hres' := t_k (n := n) (by decide) hres
  obtain ⟨⟨ha, h3⟩, s1, s2, la1, la2, n3, f3, o3⟩ := J9U (e := (resN l).1.1) (p := (resN l).1.2) hp (by omega)
  simp only at s1 s2 la1 la2 n3 f3 o3
  have hv3 : J0l h3 v l := hv.mono (by omega) fun i hi => by rw [o3 i (by omega), o2 i (by omega), o1 i hi]
  obtain ⟨v4, h4, hrefr, pv', rfl, hp', f4, n4, o4⟩ := Jij (n := n) (h := h3) (by omega) hv3 (by omega) h64 (by omega)
  have href' := t_k (n := n) (by decide) hrefr
  obtain ⟨⟨hb, h5⟩, s3, s4, lb1, lb2, n5, f5, o5⟩ := J9U (e := (resN l).1.1) (p := (resN l).1.2) hp' (by omega)
  simp only at s3 s4 lb1 lb2 n5 f5 o5
  have hO : ∀ i, i < h2.next → h5.get i = h2.get i := fun i hi => by rw [o5 i (by omega), o4 i (by omega), o3 i hi]
  have hL5 : LentAt h5 h.next l L := ⟨by rw [hO _ (by omega), o2 _ (by omega)]; exact hL.g, hL.len, hL.own, hL.marks⟩
  have hv5 : J0l h5 v l := hv3.mono (by omega) fun i hi => by rw [o5 i (by omega), o4 i (by omega)]
  obtain ⟨h6, hkept, n6, f6, o6⟩ := JhR (n := n) hL5 (by omega) (by omega) hv5 (by omega) (by omega)
  have hkept' := t_k (n := n) (by decide) hkept
  have hpA : J3x h1.next h6 pv (outN l).1 (outN l).2 := hp.mono (by omega) fun i hi1 hi2 => by rw [o6 i (by omega), hO i hi2]
  have hpB : J3x h3.next h6 pv' (outN l).1 (outN l).2 := hp'.mono (by omega) fun i hi1 hi2 => by rw [o6 i (by omega), o5 i (by omega)]
  have hsm := JdR (l := l) (by omega)
  obtain ⟨b, hsame, hb'⟩ := JgK (n := n) (h := h6) hpA hpB hsm.1 (by omega)
  have hbt : b = true := hb'.2 (J8U _ _)
  subst hbt
  have hsame' := t_k (n := n) (by decide) hsame
  have hhd := JfG (n := n) (h := h6) (by rw [o6 0 (by omega), hO 0 (by omega), o2 0 (by omega), o1 0 hn0]; exact hg)
  have lA1 : ldN 8 0 (h6.get h2.next) = some pv := by rw [o6 _ (by omega), o5 _ (by omega), o4 _ (by omega)]; exact la1
  have lA2 : ldN 2 0 (h6.get (h2.next + 1)) = some (J2k (resN l).1.1 (resN l).1.2) := by rw [o6 _ (by omega), o5 _ (by omega), o4 _ (by omega)]; exact la2
  have lB1 : ldN 8 0 (h6.get h4.next) = some pv' := by rw [o6 _ (by omega)]; exact lb1
  have lB2 : ldN 2 0 (h6.get (h4.next + 1)) = some (J2k (resN l).1.1 (resN l).1.2) := by rw [o6 _ (by omega)]; exact lb2
  have zc30 : zPol.cells.toList = [.string ByteArray.empty, .slice none 0 0, .slice none 0 0, .slice none 0 0, .slice none 0 0, .slice none 0 0, .slice none 0 0, iv 0] := rfl
  have zc33 : (J2k 0 0).cells.toList = [iv 0, iv 0] := rfl
  have z1 : ((resN l).1.1 == (resN l).1.1 && (resN l).1.2 == (resN l).1.2) = true := by simp
  simp only [evC, seval, ↓evP, hr, hfar, hlend', hres', J5F, J3Y, zc30, J3C, J1t, zc33, J1D, s1, s2, href', s3, s4, hkept', J1b, J2n, lA1, lA2, lB1, lB2, eq33, z1, Bool.and_self, hsame', hhd]
end
def zero1 (x : RowN) : RowN := if x.kind ≠ 27 then { x with n := 0 } else x
def zeroN (l : List RowN) : List RowN := l.map zero1
def MayBe (nm : ByteArray) (s : StN) : Prop := (resN (zeroN s.rows)).1.1 = 0 ∧ J5b nm (outN (zeroN s.rows)).1 s (outN (zeroN s.rows)).2
open Classical in
noncomputable def chkPol (nm : ByteArray) (s : StN) : Int := if MayBe nm s then 0 else 23
theorem laid_out {H : SHeap} {cs : List Value} {e p : Int} (hl : cs.length = 8) (ho : cs.all one = true) (hf : H.floor ≤ H.next) :
  ∃ H' : SHeap × SHeap, J0K Tryd.prog ((H.push (.row [.string ByteArray.empty, .slice none 0 0, .slice none 0 0, .slice none 0 0, .slice none 0 0, .slice none 0 0, .slice none 0 0, iv 0] 30 false false)).push (.row [iv 0, iv 0] 33 false false)) 30 (.pointer (some ⟨H.next, 0, none⟩)) (.agg cs.toArray) = some (H'.1) ∧ J0K Tryd.prog H'.1 33 (.pointer (some ⟨H.next + 1, 0, none⟩)) (J2k e p) = some H'.2 ∧
   Out2 H.next H'.2 cs e p ∧ H'.2.next = H.next + 2 ∧ H'.2.floor = H.floor ∧ ∀ i, i < H.next → H'.2.get i = H.get i := by
 have ga := J4c (h := H) (o := .row [.string ByteArray.empty, .slice none 0 0, .slice none 0 0, .slice none 0 0, .slice none 0 0, .slice none 0 0, .slice none 0 0, iv 0] 30 false false) (o' := .row [iv 0, iv 0] 33 false false)
 have gb := J48 (h := H) (o := .row [.string ByteArray.empty, .slice none 0 0, .slice none 0 0, .slice none 0 0, .slice none 0 0, .slice none 0 0, .slice none 0 0, iv 0] 30 false false) (o' := .row [iv 0, iv 0] 33 false false)
 have gold : ∀ i, i < H.next → ((H.push (.row [.string ByteArray.empty, .slice none 0 0, .slice none 0 0, .slice none 0 0, .slice none 0 0, .slice none 0 0, .slice none 0 0, iv 0] 30 false false)).push (.row [iv 0, iv 0] 33 false false)).get i = H.get i := fun i hi => by rw [J06 (by show i < H.next + 1; omega), J06 hi]
 have hnx : ((H.push (.row [.string ByteArray.empty, .slice none 0 0, .slice none 0 0, .slice none 0 0, .slice none 0 0, .slice none 0 0, .slice none 0 0, iv 0] 30 false false)).push (.row [iv 0, iv 0] 33 false false)).next = H.next + 2 := rfl
 have hfx : ((H.push (.row [.string ByteArray.empty, .slice none 0 0, .slice none 0 0, .slice none 0 0, .slice none 0 0, .slice none 0 0, .slice none 0 0, iv 0] 30 false false)).push (.row [iv 0, iv 0] 33 false false)).floor = H.floor := rfl
 generalize (H.push (.row [.string ByteArray.empty, .slice none 0 0, .slice none 0 0, .slice none 0 0, .slice none 0 0, .slice none 0 0, .slice none 0 0, iv 0] 30 false false)).push (.row [iv 0, iv 0] 33 false false) = G at *
 obtain ⟨H', s1, s2, r1, r2, r3, r4⟩ := J4J (a := H.next) (H := G) ⟨ga, gb⟩ rfl (by omega) (by omega) (cs' := cs) hl ho (e' := e) (p' := p)
 exact ⟨⟨_, H'⟩, s1, s2, r1, by show H'.next = _; omega, by show H'.floor = _; omega, fun i hi => by show H'.get i = _; rw [r4 i (by omega) (by omega), gold i hi]⟩
theorem all8 {lo : Nat} {h : SHeap} {nm : ByteArray} {s : StN} {vr vq vv vt vu vo : Value} (h1 : J3P lo h vr s.rows) (h2 : J0p lo h vq s.queues.length 2 (J3S s.queues)) (h3 : J0p lo h vv s.vars.length 1 (strs s.vars)) (h4 : J0p lo h vt s.tags.length 1 (strs s.tags)) (h5 : J1S lo h vu s.rules) (h6 : J1S lo h vo s.on) :
  ([.string nm, vr, vq, vv, vt, vu, vo, iv s.miss] : List Value).all one = true := by
 simp only [List.all_cons, List.all_nil, h1.2.one, h2.one, h3.one, h4.one, J0p.one h5, J0p.one h6, J5J, J5K, Bool.and_self]
def Lies (v : Value) (n : Nat) : Prop := ∃ id off c, v = .slice (some ⟨id, off, none⟩) n c
theorem lies_of {h : SHeap} {v : Value} {l : List RowN} (hv : J0l h v l) (hne : 0 < l.length) : Lies v l.length := by
 obtain ⟨a, c, rfl, ⟨h1, _⟩ | ⟨id, off, _, _, _, _, rfl, _⟩⟩ := hv
 ·rw [h1] at hne; exact absurd hne (by simp)
 ·exact ⟨id, off, c, rfl⟩
theorem clone_any {call : J0r} {N : Nat} {h : SHeap} {l : List RowN} {v : Value} (hv : J0l h v l) (hlies : Lies v l.length) (hlen : l.length < 1099511627) :
  ∃ v' h', J0L Tryd.prog call N 48 [v] h = some (v', h') ∧ (∃ o c g, v' = .slice (some ⟨o, 0, none⟩) l.length c ∧ h'.get o = .row (l.flatMap J0e) 46 g false ∧ h.next ≤ o ∧ o < h'.next) ∧ h'.floor = h.floor ∧ h.next ≤ h'.next ∧ ∀ i, i < h.next → h'.get i = h.get i := by
 by_cases h0 : 0 < l.length
 ·obtain ⟨h', e, g1, g2, g3, g4⟩ := Jby (call := call) (N := N) hv h0 hlen
  exact ⟨_, h', e, ⟨h.next + 1, unk, true, rfl, g1, by omega, by omega⟩, g3, by omega, g4⟩
 ·have hl : l = [] := List.length_eq_zero_iff.1 (by omega)
  subst hl
  obtain ⟨id, off, c, rfl⟩ := hlies
  refine ⟨.slice (some ⟨h.next, 0, none⟩) 0 0, h.push (.row [] 46 false false), ?_, ⟨h.next, 0, false, rfl, J0h, Nat.le_refl _, by show h.next < h.next + 1; omega⟩, rfl, by show h.next ≤ h.next + 1; omega, fun i hi => J06 hi⟩
  refine J1m Tryd.func48 rfl (by simp [Tryd.f48]) ?_
  have hr : Tryd.f48.results.toList = [.tmp 2] := rfl
  have hb : binS Tryd.prog .eql 22 (.tmp 3) (.const (.slice none 0 0)) (.slice (some ⟨id, off, none⟩) ([] : List RowN).length c) (.slice none 0 0) = some (.bool false) := by
   have hf : flat (.slice (some ⟨id, off, none⟩) ([] : List RowN).length c) = false := rfl
   simp only [binS, hf, Bool.false_and, Bool.false_eq_true, if_false, Tryd.underlying22]
  have hbs : J0Q Tryd.prog h 22 0 [] = some (.slice (some ⟨h.next, 0, none⟩) 0 0, h.push (.row [] 46 false false)) := by
   simp [J0Q, Tryd.underlying22, sz46, J40, flat, J1i, J0G, J5k, J3e]
  have hsrc : J16 (h.push (.row [] 46 false false)) 5 ([] : List RowN).length (.slice (some ⟨id, off, none⟩) ([] : List RowN).length c) = some [] := by simp [J16]
  have hap : J1o Tryd.prog (h.push (.row [] 46 false false)) 22 (.slice (some ⟨h.next, 0, none⟩) 0 0) (.slice (some ⟨id, off, none⟩) ([] : List RowN).length c) = some (.slice (some ⟨h.next, 0, none⟩) 0 0, h.push (.row [] 46 false false)) := by
   have hu : (0 : Nat) ≠ unk := by unfold unk; omega
   have hzs : (Value.agg #[.int .i64 0, .string ByteArray.empty, .int .i64 0, .int .i64 0, .int .i64 0]).cells.size = 5 := rfl
   simp [J1o, Tryd.underlying22, sz46, by46, J40, hzs, J16, hu]
  simp only [evC, seval, ↓evP, hr, hb, hbs, hap]
theorem k_cloneA {n : Nat} {h : SHeap} {l : List RowN} {v : Value} (hv : J0l h v l) (hlies : Lies v l.length) (hlen : l.length < 1099511627) (hn : 0 < n) :
  ∃ v' h', J0T n 48 [v] h = some (v', h') ∧ (∃ o c g, v' = .slice (some ⟨o, 0, none⟩) l.length c ∧ h'.get o = .row (l.flatMap J0e) 46 g false ∧ h.next ≤ o ∧ o < h'.next) ∧ h'.floor = h.floor ∧ h.next ≤ h'.next ∧ ∀ i, i < h.next → h'.get i = h.get i := by
 obtain ⟨n, rfl⟩ : ∃ j, n = j + 1 := ⟨n - 1, by omega⟩
 refine k_ex (J13 ⟨rfl, rfl, rfl⟩) (clone_any (call := J0T n) (N := n) hv hlies hlen) fun v' h1 hf ho ⟨⟨o, c, g, e1, _⟩, _⟩ => ?_
 rw [e1] at hf
 cases hf
section
variable {n N : Nat}
set_option maxHeartbeats 16000000 in
theorem chkP_walk {nm : ByteArray} {s : StN} {pv : Value} {lo : Nat} {h : SHeap} (hp : J3x lo h pv nm s) (hlies : ∀ nm' vr vq vv vt vu vo m, pv = .agg #[.string nm', vr, vq, vv, vt, vu, vo, m] → Lies vr s.rows.length) (hs : JdC s) (hl : s.rows.length < 900000000) (hfl : h.floor ≤ h.next) (hg : h.get 0 = J14) (hn0 : 0 < h.next) (hn : 2 * Jbg s + 200 < n) (hN : Jbg s + 200 < N) :
  ∃ h', J0L Tryd.prog (J0T n) N 22 [pv] h = some (iv (chkPol nm s), h') ∧ ∀ i, i < h.next → h'.get i = h.get i := by
 obtain ⟨vr, vq, vv, vt, vu, vo, rfl, p1, p2, p3, p4, p5, p6⟩ := hp
 have hlv := hlies _ _ _ _ _ _ _ _ rfl
 refine J1N (R := fun h' => ∀ i, i < h.next → h'.get i = h.get i) Tryd.func22 rfl (by simp [Tryd.f22]) ?_
 have hr : Tryd.f22.results.toList = [.tmp 2] := rfl
 unfold Jbg at hn hN
 obtain ⟨q1, q2, q3, q4, q5, q6⟩ := hs
 have ca : (Value.agg #[.string nm, vr, vq, vv, vt, vu, vo, iv s.miss]).cells.toList = [.string nm, vr, vq, vv, vt, vu, vo, iv s.miss] := rfl
 have oa := all8 (nm := nm) p1 p2 p3 p4 p5 p6
 have gA : (h.push (.row [.string nm, vr, vq, vv, vt, vu, vo, iv s.miss] 30 false false)).get h.next = .row [.string nm, vr, vq, vv, vt, vu, vo, iv s.miss] 30 false false := J0h
 have gO : ∀ i, i < h.next → (h.push (.row [.string nm, vr, vq, vv, vt, vu, vo, iv s.miss] 30 false false)).get i = h.get i := fun i hi => J06 hi
 have nA : (h.push (.row [.string nm, vr, vq, vv, vt, vu, vo, iv s.miss] 30 false false)).next = h.next + 1 := rfl
 have fA : (h.push (.row [.string nm, vr, vq, vv, vt, vu, vo, iv s.miss] 30 false false)).floor = h.floor := rfl
 show WK _ _ _ (.seq _ (.seq _ (.seq (.seq _ _) (.seq _ (.seq _ _))))) _ _
 simp only [evC, seval, ↓evP, rpD, J0X, J2t, ca, oa, sz30]
 generalize h.push (.row [.string nm, vr, vq, vv, vt, vu, vo, iv s.miss] 30 false false) = A at *
 have l1 : ld1 1 (A.get h.next) = some vr := by rw [gA]; rfl
 have P1 : J0l A vr s.rows := p1.1.mono (by omega) gO
 obtain ⟨v', h1, hcl, ⟨o, c, g, rfl, g1, g2, g3⟩, f1, n1, o1⟩ := k_cloneA (n := n) P1 hlv (by omega) (by omega)
 have hlen : ∀ h' : SHeap, lenS Tryd.prog h' 22 (.slice (some ⟨o, 0, none⟩) s.rows.length c) = some (iv (s.rows.length : Int)) := fun h' => JeK
 simp only [evC, seval, ↓evP, Nat.zero_add, J0y, J0F, l1, hcl, hlen]
 refine WK.loop (fun i s' => s'.T.get 1 = .pointer (some ⟨h.next, 0, none⟩) ∧ s'.T.get 3 = .slice (some ⟨o, 0, none⟩) s.rows.length c ∧ s'.T.get 11 = iv (s.rows.length : Int) ∧ s'.T.get 12 = iv i ∧ i ≤ s.rows.length ∧ s'.h.next = h1.next ∧ s'.h.floor = h1.floor ∧ (∀ i, i ≠ o → s'.h.get i = h1.get i) ∧
  ∃ L : List RowN, s'.h.get o = .row (L.flatMap J0e) 46 g false ∧ ∀ j, L[j]? = (s.rows[j]?).map fun x => if j < i then zero1 x else x) s.rows.length (by omega) ?_ ?_
 ·refine ⟨by simp only [evC, ↓reduceIte, Nat.reduceEqDiff, reduceCtorEq, ↓evP, rpC, Nat.reduceAdd, Nat.reduceLT], by simp only [evC, ↓reduceIte, Nat.reduceEqDiff, reduceCtorEq, ↓evP, rpC, Nat.reduceAdd, Nat.reduceLT], by simp only [evC, ↓reduceIte, Nat.reduceEqDiff, reduceCtorEq, ↓evP, rpC, Nat.reduceAdd, Nat.reduceLT], by simp only [evC, ↓reduceIte, Nat.reduceEqDiff, reduceCtorEq, ↓evP, rpC, Nat.reduceAdd, Nat.reduceLT]; rfl, by omega, rfl, rfl, fun _ _ => rfl, s.rows, g1, fun j => ?_⟩
  simp
 rintro i ⟨T1, H1⟩ hi ⟨t1, t3, t11, t12, hil, m1, m2, m3, L, gL, hL⟩
 simp only at t1 t3 t11 t12 m1 m2 m3 gL
 have hLl : L.length = s.rows.length := by
  rcases Nat.lt_trichotomy L.length s.rows.length with h9 | h9 | h9
  ·have := hL L.length
   rw [List.getElem?_eq_none (Nat.le_refl _), List.getElem?_eq_getElem h9] at this
   cases this
  ·exact h9
  ·have := hL s.rows.length
   rw [List.getElem?_eq_getElem h9, List.getElem?_eq_none (Nat.le_refl _)] at this
   cases this
 by_cases hlt : i < s.rows.length
 ·have c1 : decide ((i : Int) < (s.rows.length : Int)) = true := by simp; omega
  obtain ⟨x, hx⟩ : ∃ x, s.rows[i]? = some x := ⟨_, List.getElem?_eq_getElem hlt⟩
  have hLx : L[i]? = some x := by rw [hL, hx]; simp
  have ea := JaW (id := o) (n := s.rows.length) (c := c) hlt
  have lk : ld1 (i * 5) (H1.get o) = some (iv x.kind) := by
   have h5 := J2Y hLx
   rw [gL]
   have : (L.flatMap J0e)[i * 5]? = (J0e x)[0]? := by
    rw [← h5, List.getElem?_take_of_lt (by omega), List.getElem?_drop, Nat.add_zero]
   simp only [ld1, this]
   rfl
  have w1 : IntKind.i64.wrap ((i : Int) + 1) = ((i + 1 : Nat) : Int) := J0s (by omega) (by omega)
  cases d : (x.kind != 27) with
  | false =>
   have hz : zero1 x = x := by
    unfold zero1
    rw [if_neg (by simpa using d)]
   simp only [evC, seval, ↓evP, t1, t3, t11, t12, c1, ea, J0t, J0m, lk, d, w1]
   refine ⟨hlt, by omega, m1, m2, m3, L, gL, fun j => ?_⟩
   rw [hL j]
   by_cases hj : j = i
   ·subst hj
    rw [hx]
    simp [hz]
   ·congr 1
    funext y
    by_cases h9 : j < i
    ·rw [if_pos h9, if_pos (by omega)]
    ·rw [if_neg h9, if_neg (by omega)]
  | true =>
   have hz : zero1 x = { x with n := 0 } := by
    unfold zero1
    rw [if_pos (by simpa using d)]
   have hst := stc (t := 3) (off := i * 5 + 3) (v := iv 0) sz3 rfl rfl gL (by rw [J0N]; omega) (by omega)
   rw [J3N hLx] at hst
   simp only [evC, seval, ↓evP, t1, t3, t11, t12, c1, ea, J0t, J0O, J0m, lk, d, hst, w1]
   refine ⟨hlt, by omega, m1, m2, fun j hj => by rw [J05 (by omega) (Ne.symm hj)]; exact m3 j hj, setN L i 0, J0b rfl (by omega), fun j => ?_⟩
   by_cases hj : j = i
   ·subst hj
    rw [J4g hLx, hx]
    simp [hz]
   ·rw [J4M hj, hL j]
    congr 1
    funext y
    by_cases h9 : j < i
    ·rw [if_pos h9, if_pos (by omega)]
    ·rw [if_neg h9, if_neg (by omega)]
 have c1 : decide ((i : Int) < (s.rows.length : Int)) = false := by simp; omega
 have : i = s.rows.length := by omega
 subst this
 have hLz : L = zeroN s.rows := by
  apply List.ext_getElem?
  intro j
  rw [hL j, zeroN, List.getElem?_map]
  rcases Nat.lt_or_ge j s.rows.length with h9 | h9
  ·simp [h9]
  ·rw [List.getElem?_eq_none h9]
   rfl
 subst hLz
 have hvz : J0l H1 (.slice (some ⟨o, 0, none⟩) s.rows.length c) (zeroN s.rows) := by
  refine ⟨_, _, by rw [hLl], .inr ⟨o, 0, _, _, _, _, rfl, gL, by omega, fun k r hk => by rw [Nat.zero_add]; exact J2Y hk⟩⟩
 have hw1 : H1.get 0 = J14 := by rw [m3 0 (by omega), o1 0 (by omega), gO 0 hn0]; exact hg
 obtain ⟨v2, h2, hres, pv, rfl, hp', f2, n2, o2⟩ := Jia (n := n) (h := H1) (by omega) hw1 (by omega) hvz (by omega) (by omega)
 obtain ⟨vr', vq', vv', vt', vu', vo', rfl, b1, b2, b3, b4, b5, b6⟩ := hp'
 obtain ⟨⟨hb, h3⟩, s1, s2, rO, n3, f3, o3⟩ := laid_out (H := h2) (cs := [.string (outN (zeroN s.rows)).1, vr', vq', vv', vt', vu', vo', iv (outN (zeroN s.rows)).2.miss]) (e := (resN (zeroN s.rows)).1.1) (p := (resN (zeroN s.rows)).1.2) rfl (all8 b1 b2 b3 b4 b5 b6) (by omega)
 simp only at s1 s2 rO n3 f3 o3
 have zc30 : zPol.cells.toList = [.string ByteArray.empty, .slice none 0 0, .slice none 0 0, .slice none 0 0, .slice none 0 0, .slice none 0 0, .slice none 0 0, iv 0] := rfl
 have zc33 : (J2k 0 0).cells.toList = [iv 0, iv 0] := rfl
 have HO : ∀ i, i < h.next → h3.get i = h.get i := fun i hi => by rw [o3 i (by omega), o2 i (by omega), m3 i (by omega), o1 i (by omega), gO i hi]
 have HA : h3.get h.next = .row [.string nm, vr, vq, vv, vt, vu, vo, iv s.miss] 30 false false := by rw [o3 _ (by omega), o2 _ (by omega), m3 _ (by omega), o1 _ (by omega)]; exact gA
 obtain ⟨x0, x1, x2, x3, x4, x5, x6, x7⟩ := Jhw (a := .string nm) (b := vr) (c := vq) (d := vv) (e := vt) (f := vu) (g := vo) (i := iv s.miss) (ty := 30) (x := false) (y := false)
 obtain ⟨y0, y1, y2, y3, y4, y5, y6, y7⟩ := Jhw (a := .string (outN (zeroN s.rows)).1) (b := vr') (c := vq') (d := vv') (e := vt') (f := vu') (g := vo') (i := iv (outN (zeroN s.rows)).2.miss) (ty := 30) (x := false) (y := false)
 rw [← HA] at x0 x1 x2 x3 x4 x5 x6 x7
 rw [← rO.1] at y0 y1 y2 y3 y4 y5 y6 y7
 have lF : ld1 0 (h3.get (h2.next + 1)) = some (iv (resN (zeroN s.rows)).1.1) := by rw [rO.2]; rfl
 have NN : h.next ≤ h3.next := by omega
 have A1 := p1.1.mono NN HO
 have A2 := p2.mono NN fun i _ hi => HO i hi
 have A3 := p3.mono NN fun i _ hi => HO i hi
 have A4 := p4.mono NN fun i _ hi => HO i hi
 have A5 := J1S.mono p5 NN fun i _ hi => HO i hi
 have A6 := J1S.mono p6 NN fun i _ hi => HO i hi
 have B1 := (b1.mono (h' := h3) (by omega) fun i _ hi => o3 i hi).1
 have B2 := b2.mono (h' := h3) (by omega) fun i _ hi => o3 i hi
 have B3 := b3.mono (h' := h3) (by omega) fun i _ hi => o3 i hi
 have B4 := b4.mono (h' := h3) (by omega) fun i _ hi => o3 i hi
 have B5 := J1S.mono (h' := h3) b5 (by omega) fun i _ hi => o3 i hi
 have B6 := J1S.mono (h' := h3) b6 (by omega) fun i _ hi => o3 i hi
 have hR := k_eqR (n := n) A1 B1 (by omega) (by omega)
 have hQ := k_eqQ (n := n) A2 B2 (by omega) (by omega)
 have hV := k_eqT (n := n) A3 B3 (by omega) (by omega)
 have hT := k_eqT (n := n) A4 B4 (by omega) (by omega)
 have hU := k_eqI (n := n) A5 B5 (by omega) (by omega)
 have hO := k_eqI (n := n) A6 B6 (by omega) (by omega)
 have yes : (resN (zeroN s.rows)).1.1 = 0 → J5b nm (outN (zeroN s.rows)).1 s (outN (zeroN s.rows)).2 → chkPol nm s = 0 := fun h8 h9 => if_pos ⟨h8, h9⟩
 have no1 : (resN (zeroN s.rows)).1.1 ≠ 0 → chkPol nm s = 23 := fun h8 => if_neg fun h9 => h8 h9.1
 have no2 : ¬ J5b nm (outN (zeroN s.rows)).1 s (outN (zeroN s.rows)).2 → chkPol nm s = 23 := fun h8 => if_neg fun h9 => h8 h9.2
 simp only [evC, seval, ↓evP, t1, t3, t11, t12, c1, hres, J5F, J3Y, zc30, J3C, J1t, zc33, J1D, s1, s2]
 cases d0 : ((resN (zeroN s.rows)).1.1 != 0) with
 | true =>
  rw [no1 (by simpa using d0)]
  simp only [evC, seval, ↓evP, hr, t1, List.append_eq, List.toList_toArray, Nat.zero_add, J6a, J7G, lF, J5g, J0y, J0B, J1A, J1B, J36, J1T, J38, J0d, J0m, J0F, J0S, J0Y, J0n, x0, x1, x2, x3, x4, x5, x6, x7, y0, y1, y2, y3, y4, y5, y6, y7, J26, d0]
  exact HO
 | false =>
 cases d1 : (!(nm == (outN (zeroN s.rows)).1)) with
 | true =>
  rw [no2 fun h9 => by rw [h9.1, J34] at d1; cases d1]
  simp only [evC, seval, ↓evP, hr, t1, List.append_eq, List.toList_toArray, Nat.zero_add, J6a, J7G, lF, J5g, J0y, J0B, J1A, J1B, J36, J1T, J38, J0d, J0m, J0F, J0S, J0Y, J0n, x0, x1, x2, x3, x4, x5, x6, x7, y0, y1, y2, y3, y4, y5, y6, y7, J26, d0, d1]
  exact HO
 | false =>
 cases d2 : (s.miss != (outN (zeroN s.rows)).2.miss) with
 | true =>
  rw [no2 fun h9 => by rw [h9.2.1] at d2; simp at d2]
  simp only [evC, seval, ↓evP, hr, t1, List.append_eq, List.toList_toArray, Nat.zero_add, J6a, J7G, lF, J5g, J0y, J0B, J1A, J1B, J36, J1T, J38, J0d, J0m, J0F, J0S, J0Y, J0n, x0, x1, x2, x3, x4, x5, x6, x7, y0, y1, y2, y3, y4, y5, y6, y7, J26, d0, d1, d2]
  exact HO
 | false =>
 cases d3 : decide (s.rows = (outN (zeroN s.rows)).2.rows) with
 | false =>
  rw [d3] at hR
  rw [no2 fun h9 => (of_decide_eq_false d3) h9.2.2.1]
  simp only [evC, seval, ↓evP, hr, t1, List.append_eq, List.toList_toArray, Nat.zero_add, J6a, J7G, lF, J5g, J0y, J0B, J1A, J1B, J36, J1T, J38, J0d, J0m, J0F, J0S, J0Y, J0n, x0, x1, x2, x3, x4, x5, x6, x7, y0, y1, y2, y3, y4, y5, y6, y7, J26, d0, d1, d2, hR]
  exact HO
 | true =>
 rw [d3] at hR
 cases d4 : decide (s.queues = (outN (zeroN s.rows)).2.queues) with
 | false =>
  rw [d4] at hQ
  rw [no2 fun h9 => (of_decide_eq_false d4) h9.2.2.2.1]
  simp only [evC, seval, ↓evP, hr, t1, List.append_eq, List.toList_toArray, Nat.zero_add, J6a, J7G, lF, J5g, J0y, J0B, J1A, J1B, J36, J1T, J38, J0d, J0m, J0F, J0S, J0Y, J0n, x0, x1, x2, x3, x4, x5, x6, x7, y0, y1, y2, y3, y4, y5, y6, y7, J26, d0, d1, d2, hR, hQ]
  exact HO
 | true =>
 rw [d4] at hQ
 cases d5 : decide (s.vars = (outN (zeroN s.rows)).2.vars) with
 | false =>
  rw [d5] at hV
  rw [no2 fun h9 => (of_decide_eq_false d5) h9.2.2.2.2.1]
  simp only [evC, seval, ↓evP, hr, t1, List.append_eq, List.toList_toArray, Nat.zero_add, J6a, J7G, lF, J5g, J0y, J0B, J1A, J1B, J36, J1T, J38, J0d, J0m, J0F, J0S, J0Y, J0n, x0, x1, x2, x3, x4, x5, x6, x7, y0, y1, y2, y3, y4, y5, y6, y7, J26, d0, d1, d2, hR, hQ, hV]
  exact HO
 | true =>
 rw [d5] at hV
 cases d6 : decide (s.tags = (outN (zeroN s.rows)).2.tags) with
 | false =>
  rw [d6] at hT
  rw [no2 fun h9 => (of_decide_eq_false d6) h9.2.2.2.2.2.1]
  simp only [evC, seval, ↓evP, hr, t1, List.append_eq, List.toList_toArray, Nat.zero_add, J6a, J7G, lF, J5g, J0y, J0B, J1A, J1B, J36, J1T, J38, J0d, J0m, J0F, J0S, J0Y, J0n, x0, x1, x2, x3, x4, x5, x6, x7, y0, y1, y2, y3, y4, y5, y6, y7, J26, d0, d1, d2, hR, hQ, hV, hT]
  exact HO
 | true =>
 rw [d6] at hT
 cases d7 : decide (s.rules = (outN (zeroN s.rows)).2.rules) with
 | false =>
  rw [d7] at hU
  rw [no2 fun h9 => (of_decide_eq_false d7) h9.2.2.2.2.2.2.1]
  simp only [evC, seval, ↓evP, hr, t1, List.append_eq, List.toList_toArray, Nat.zero_add, J6a, J7G, lF, J5g, J0y, J0B, J1A, J1B, J36, J1T, J38, J0d, J0m, J0F, J0S, J0Y, J0n, x0, x1, x2, x3, x4, x5, x6, x7, y0, y1, y2, y3, y4, y5, y6, y7, J26, d0, d1, d2, hR, hQ, hV, hT, hU]
  exact HO
 | true =>
 rw [d7] at hU
 cases d8 : decide (s.on = (outN (zeroN s.rows)).2.on) with
 | false =>
  rw [d8] at hO
  rw [no2 fun h9 => (of_decide_eq_false d8) h9.2.2.2.2.2.2.2]
  simp only [evC, seval, ↓evP, hr, t1, List.append_eq, List.toList_toArray, Nat.zero_add, J6a, J7G, lF, J5g, J0y, J0B, J1A, J1B, J36, J1T, J38, J0d, J0m, J0F, J0S, J0Y, J0n, x0, x1, x2, x3, x4, x5, x6, x7, y0, y1, y2, y3, y4, y5, y6, y7, J26, d0, d1, d2, hR, hQ, hV, hT, hU, hO]
  exact HO
 | true =>
 rw [d8] at hO
 rw [yes (by simpa using d0) ⟨J3o (by simpa using d1), by simpa using d2, of_decide_eq_true d3, of_decide_eq_true d4, of_decide_eq_true d5, of_decide_eq_true d6, of_decide_eq_true d7, of_decide_eq_true d8⟩]
 simp only [evC, seval, ↓evP, hr, t1, List.append_eq, List.toList_toArray, Nat.zero_add, J6a, J7G, lF, J5g, J0y, J0B, J1A, J1B, J36, J1T, J38, J0d, J0m, J0F, J0S, J0Y, J0n, x0, x1, x2, x3, x4, x5, x6, x7, y0, y1, y2, y3, y4, y5, y6, y7, J26, d0, d1, d2, hR, hQ, hV, hT, hU, hO]
 exact HO
theorem k_chkP {nm : ByteArray} {s : StN} {pv : Value} {lo : Nat} {h : SHeap} (hp : J3x lo h pv nm s) (hlies : ∀ nm' vr vq vv vt vu vo m, pv = .agg #[.string nm', vr, vq, vv, vt, vu, vo, m] → Lies vr s.rows.length) (hs : JdC s) (hl : s.rows.length < 900000000) (hfl : h.floor ≤ h.next) (hg : h.get 0 = J14) (hn0 : 0 < h.next) (hn : 2 * Jbg s + 300 < n) :
  J0T n 22 [pv] h = some (iv (chkPol nm s), h) := by
 obtain ⟨n, rfl⟩ : ∃ j, n = j + 1 := ⟨n - 1, by omega⟩
 exact J4r (J13 ⟨rfl, rfl, rfl⟩) rfl (chkP_walk hp hlies hs hl hfl hg hn0 (by omega) (by omega))
end
end Go.Proofs.YtipekdhneagdbaaDoor
