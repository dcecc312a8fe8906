/- TypedNumbers, TypedFloor: walked, by the shadow reading. -/
import Derived.Test.YtdejoodfeljmkaaDoorSxTK
import Derived.Test.YtdejoodfeljmkaaDoorSxTd
namespace Go.Proofs.YtdejoodfeljmkaaDoor
open Go Go.Sx
set_option maxRecDepth 100000
set_option linter.unusedSimpArgs false
set_option linter.unusedVariables false

theorem I64_clamp (x : Int) : I64 (clampN x) := by have := clampN_range x; unfold I64; omega

section
variable {n : Nat} {h : SHeap}
theorem G_clamp {x : Int} : G (n + 1) 9 [.int .i64 x] h = some (.int .i64 (clampN x), h) := by rw [G_at (by decide), clamp_walk]
theorem G_rclamp {x : Int} : G (n + 1) 10 [.int .i64 x] h = some (.int .i64 (clampN x), h) := by rw [G_at (by decide), rclamp_walk]
theorem G_div {a b : Int} (ha : I64 a) (hb : I64 b) : G (n + 2) 11 [.int .i64 a, .int .i64 b] h = some (.int .i64 (divN a b), h) := by
  rw [G_at (by decide), div_walk (fun x h => G_clamp) ha hb]
theorem G_rdiv {a b : Int} (ha : I64 a) (hb : I64 b) : G (n + 2) 12 [.int .i64 a, .int .i64 b] h = some (.int .i64 (divN a b), h) := by
  rw [G_at (by decide), rdiv_walk (fun x h => G_rclamp) ha hb]

theorem numbers_walk {a b : Int} (ha : I64 a) (hb : I64 b) (h0 : h.get 0 = wordsRow) : G 4 3 [.int .i64 a, .int .i64 b] h = some (.bool true, h) := by
  refine (G_at (by decide)).trans ?_
  refine call_is Tryd.func3 rfl (by simp [Tryd.f3]) ?_
  have hr : Tryd.f3.results.toList = [.tmp 4] := rfl
  have e8 : G 3 8 [] h = _ := G_head (n := 2) h0
  have e9 : ∀ x, G 3 9 [.int .i64 x] h = _ := fun x => G_clamp (n := 2)
  have e10 : ∀ x, G 3 10 [.int .i64 x] h = _ := fun x => G_rclamp (n := 2)
  have e11 := G_div (n := 1) (h := h) ha hb
  have e12 := G_rdiv (n := 1) (h := h) ha hb
  have e11' := G_div (n := 1) (h := h) hb ha
  have e12' := G_rdiv (n := 1) (h := h) hb ha
  simp only [wk_seq, wk_block, wk_region, wkl_nil, wkl_cons, wk_cond, wkc_bool, wk_skip, wk_exit, wk_ret, ap_top, ap_seqN, ap_seqE, ap_seqR, ap_blkN, ap_blkE, ap_blkR, ap_invN, ap_invE, ap_invR, want_none, sop, wkr_some, wkr_map, wko_some, ev_tmp, ev_const, ev_func, tmps0, Tr.get_put, Tr.get_set, get_leaf, callS, evs, List.map_cons, List.map_nil, ↓reduceIte, Option.some.injEq, Nat.reduceEqDiff, bin_lss, bin_leq, bin_gtr, bin_geq, bin_eql, bin_neq, bin_add, bin_sub, bin_mul, max2, min2, resS, resV, decide_eq_true_eq, decide_eq_false_iff_not, beq_iff_eq, true_and, and_true, or_true, true_or, exists_eq_left', Option.map_some, Option.map_none, want_some, Option.bind_some, reduceCtorEq, List.nil_append, List.append_nil, List.cons_append, Value.int.injEq, wantD_some, List.getElem?_toArray, List.getElem?_cons_succ, List.getElem?_cons_zero, decide_true, decide_false, beq_self_eq_true, wantG_true, wantG_false, Bool.not_true, Bool.not_false, Bool.false_eq_true, if_true, if_false, flat_bool, flat_int, pure_not, pure_neg, ↓wk_tt, ↓wk_ff, false_implies, true_implies, wantG_undef, hr, e8, e9, e10, e11, e12, e11', e12']

/-- What is left of a number by another one. -/
theorem floor_facts {a b : Int} (ha : -1073741824 ≤ a ∧ a ≤ 1073741824) (hb : -1073741824 ≤ b ∧ b ≤ 1073741824) (h0 : b ≠ 0) :
    (I64 (divN a b * b)) ∧ I64 (a - divN a b * b) ∧ ((b > 0 ∧ a - divN a b * b ≥ 0 ∧ a - divN a b * b < b) ∨ (¬ b > 0 ∧ b < 0 ∧ a - divN a b * b ≤ 0 ∧ a - divN a b * b > b)) := by
  obtain ⟨p, hp, h1, h2, h3, h4, h5, h6, h7, h8, h9⟩ := div_facts a b h0
  have hp2 : Int.tdiv a b * b = p := by rw [hp, Int.mul_comm]
  have hp3 : (Int.tdiv a b - 1) * b = p - b := by rw [Int.sub_mul, hp2, Int.one_mul]
  obtain ⟨f1, f2⟩ := flN_of (a := a) (b := b)
  have hD : divN a b = clampN (flN a b) := by unfold divN; rw [if_neg h0]
  clear hp h7 h8
  have h4' : (b > 0 → -b < Int.tmod a b ∧ Int.tmod a b < b) ∧ (b < 0 → b < Int.tmod a b ∧ Int.tmod a b < -b) := by omega
  have h5' : -1073741824 ≤ Int.tdiv a b ∧ Int.tdiv a b ≤ 1073741824 := by omega
  have hb2 : Int.tmod a b ≠ 0 → -536870912 ≤ Int.tdiv a b ∧ Int.tdiv a b ≤ 536870912 := fun h => by
    have := h6 (by omega)
    omega
  clear h4 h5 h6 h9
  unfold I64
  by_cases hm : Int.tmod a b = 0
  · have hfl : divN a b = Int.tdiv a b := by rw [hD, f1 hm, clampN_self h5']
    rw [hfl, hp2]
    clear f1 f2 hfl hD hp2 hp3
    generalize Int.tmod a b = r at *
    subst hm
    by_cases hbp : b > 0
    · omega
    · omega
  · have hb2 := hb2 hm
    have e := f2 hm
    cases hs : (decide (Int.tmod a b < 0) != decide (b < 0)) with
    | true =>
      rw [hs, if_pos rfl] at e
      have hfl : divN a b = Int.tdiv a b - 1 := by rw [hD, e, clampN_self (by omega)]
      rw [hfl, hp3]
      clear f1 f2 hfl hD hp2 hp3 e
      generalize Int.tmod a b = r at *
      by_cases hbp : b > 0
      · have : r < 0 := by
          by_cases hr : r < 0
          · exact hr
          · simp [hr, show ¬ b < 0 by omega] at hs
        omega
      · have : ¬ r < 0 := by
          intro hr
          simp [hr, show b < 0 by omega] at hs
        omega
    | false =>
      rw [hs] at e
      simp only [Bool.false_eq_true, if_false] at e
      have hfl : divN a b = Int.tdiv a b := by rw [hD, e, clampN_self (by omega)]
      rw [hfl, hp2]
      clear f1 f2 hfl hD hp2 hp3 e
      generalize Int.tmod a b = r at *
      by_cases hbp : b > 0
      · have : ¬ r < 0 := by
          intro hr
          simp [hr, show ¬ b < 0 by omega] at hs
        omega
      · have : r < 0 := by
          by_cases hr : r < 0
          · exact hr
          · simp [hr, show b < 0 by omega] at hs
        omega

theorem floor_walk {x y : Int} (h0 : h.get 0 = wordsRow) : G 4 4 [.int .i64 x, .int .i64 y] h = some (.bool true, h) := by
  refine (G_at (by decide)).trans ?_
  refine call_is Tryd.func4 rfl (by simp [Tryd.f4]) ?_
  have hr : Tryd.f4.results.toList = [.tmp 4] := rfl
  have e8 : G 3 8 [] h = _ := G_head (n := 2) h0
  have e9 : ∀ x, G 3 9 [.int .i64 x] h = _ := fun x => G_clamp (n := 2)
  have e11 := G_div (n := 1) (h := h) (I64_clamp x) (I64_clamp y)
  have ra := clampN_range x
  have rb := clampN_range y
  have ca : clampN (clampN x) = clampN x := clampN_self ra
  have ff := fun hb0 => floor_facts ra rb hb0
  have hD0 : clampN y = 0 → divN (clampN x) (clampN y) = 0 := fun h => by unfold divN; rw [if_pos h]
  generalize divN (clampN x) (clampN y) = q at *
  generalize hA : clampN x = a at *
  generalize hB : clampN y = b at *
  have d1 : decide (a < -1073741824) = false := by simp; omega
  have d2 : decide (a > 1073741824) = false := by simp; omega
  have d3 : decide (b < -1073741824) = false := by simp; omega
  have d4 : decide (b > 1073741824) = false := by simp; omega
  have d5 : (a != a) = false := by simp
  by_cases hb0 : b = 0
  · have d6 : (b == 0) = true := by simpa using hb0
    have hq := hD0 hb0
    simp only [wk_seq, wk_block, wk_region, wkl_nil, wkl_cons, wk_cond, wkc_bool, wk_skip, wk_exit, wk_ret, ap_top, ap_seqN, ap_seqE, ap_seqR, ap_blkN, ap_blkE, ap_blkR, ap_invN, ap_invE, ap_invR, want_none, sop, wkr_some, wkr_map, wko_some, ev_tmp, ev_const, ev_func, tmps0, Tr.get_put, Tr.get_set, get_leaf, callS, evs, List.map_cons, List.map_nil, ↓reduceIte, Option.some.injEq, Nat.reduceEqDiff, bin_lss, bin_leq, bin_gtr, bin_geq, bin_eql, bin_neq, bin_add, bin_sub, bin_mul, max2, min2, resS, resV, decide_eq_true_eq, decide_eq_false_iff_not, beq_iff_eq, true_and, and_true, or_true, true_or, exists_eq_left', Option.map_some, Option.map_none, want_some, Option.bind_some, reduceCtorEq, List.nil_append, List.append_nil, List.cons_append, Value.int.injEq, wantD_some, List.getElem?_toArray, List.getElem?_cons_succ, List.getElem?_cons_zero, decide_true, decide_false, beq_self_eq_true, wantG_true, wantG_false, Bool.not_true, Bool.not_false, Bool.false_eq_true, if_true, if_false, flat_bool, flat_int, pure_not, pure_neg, ↓wk_tt, ↓wk_ff, false_implies, true_implies, wantG_undef, hr, e8, e9, e11, hA, hB, ca, d1, d2, d3, d4, d5, d6, hq]
  · have d6 : (b == 0) = false := by simpa using hb0
    obtain ⟨⟨i1, i2⟩, ⟨i3, i4⟩, ff⟩ := ff hb0
    have w1 : IntKind.i64.wrap (q * b) = q * b := wrap_id i1 i2
    obtain ⟨r, er⟩ : ∃ r, r = a - q * b := ⟨_, rfl⟩
    rw [← er] at i3 i4 ff
    have w2 : IntKind.i64.wrap (a - q * b) = r := by rw [← er]; exact wrap_id i3 i4
    rcases ff with ⟨b1, b2, b3⟩ | ⟨b1, b2, b3, b4⟩
    · have g1 : decide (b > 0) = true := by simpa using b1
      have g2 : decide (r ≥ 0) = true := by simpa using b2
      have g3 : decide (r < b) = true := by simpa using b3
      simp only [wk_seq, wk_block, wk_region, wkl_nil, wkl_cons, wk_cond, wkc_bool, wk_skip, wk_exit, wk_ret, ap_top, ap_seqN, ap_seqE, ap_seqR, ap_blkN, ap_blkE, ap_blkR, ap_invN, ap_invE, ap_invR, want_none, sop, wkr_some, wkr_map, wko_some, ev_tmp, ev_const, ev_func, tmps0, Tr.get_put, Tr.get_set, get_leaf, callS, evs, List.map_cons, List.map_nil, ↓reduceIte, Option.some.injEq, Nat.reduceEqDiff, bin_lss, bin_leq, bin_gtr, bin_geq, bin_eql, bin_neq, bin_add, bin_sub, bin_mul, max2, min2, resS, resV, decide_eq_true_eq, decide_eq_false_iff_not, beq_iff_eq, true_and, and_true, or_true, true_or, exists_eq_left', Option.map_some, Option.map_none, want_some, Option.bind_some, reduceCtorEq, List.nil_append, List.append_nil, List.cons_append, Value.int.injEq, wantD_some, List.getElem?_toArray, List.getElem?_cons_succ, List.getElem?_cons_zero, decide_true, decide_false, beq_self_eq_true, wantG_true, wantG_false, Bool.not_true, Bool.not_false, Bool.false_eq_true, if_true, if_false, flat_bool, flat_int, pure_not, pure_neg, ↓wk_tt, ↓wk_ff, false_implies, true_implies, wantG_undef, hr, e8, e9, e11, hA, hB, ca, d1, d2, d3, d4, d5, d6, w1, w2, g1, g2, g3]
    · have g1 : decide (b > 0) = false := by simpa using b1
      have g2 : decide (b < 0) = true := by simpa using b2
      have g3 : decide (r ≤ 0) = true := by simpa using b3
      have g4 : decide (r > b) = true := by simpa using b4
      simp only [wk_seq, wk_block, wk_region, wkl_nil, wkl_cons, wk_cond, wkc_bool, wk_skip, wk_exit, wk_ret, ap_top, ap_seqN, ap_seqE, ap_seqR, ap_blkN, ap_blkE, ap_blkR, ap_invN, ap_invE, ap_invR, want_none, sop, wkr_some, wkr_map, wko_some, ev_tmp, ev_const, ev_func, tmps0, Tr.get_put, Tr.get_set, get_leaf, callS, evs, List.map_cons, List.map_nil, ↓reduceIte, Option.some.injEq, Nat.reduceEqDiff, bin_lss, bin_leq, bin_gtr, bin_geq, bin_eql, bin_neq, bin_add, bin_sub, bin_mul, max2, min2, resS, resV, decide_eq_true_eq, decide_eq_false_iff_not, beq_iff_eq, true_and, and_true, or_true, true_or, exists_eq_left', Option.map_some, Option.map_none, want_some, Option.bind_some, reduceCtorEq, List.nil_append, List.append_nil, List.cons_append, Value.int.injEq, wantD_some, List.getElem?_toArray, List.getElem?_cons_succ, List.getElem?_cons_zero, decide_true, decide_false, beq_self_eq_true, wantG_true, wantG_false, Bool.not_true, Bool.not_false, Bool.false_eq_true, if_true, if_false, flat_bool, flat_int, pure_not, pure_neg, ↓wk_tt, ↓wk_ff, false_implies, true_implies, wantG_undef, hr, e8, e9, e11, hA, hB, ca, d1, d2, d3, d4, d5, d6, w1, w2, g1, g2, g3, g4]
end
end Go.Proofs.YtdejoodfeljmkaaDoor
