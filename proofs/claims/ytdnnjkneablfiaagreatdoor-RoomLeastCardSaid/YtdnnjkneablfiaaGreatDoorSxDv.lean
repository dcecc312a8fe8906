/- Division to the floor: the program's and the document's, by the shadow reading. -/
import Derived.Test.YtdnnjkneablfiaaGreatDoorSxOf
namespace Go.Proofs.YtdnnjkneablfiaaGreatDoor
open Go Go.Sx
set_option maxRecDepth 100000
set_option linter.unusedSimpArgs false
set_option linter.unusedVariables false

/-- The quotient to the floor. -/
def flN (a b : Int) : Int := if Int.tmod a b ≠ 0 ∧ (decide (Int.tmod a b < 0) != decide (b < 0)) = true then Int.tdiv a b - 1 else Int.tdiv a b
def divN (a b : Int) : Int := if b = 0 then 0 else clampN (flN a b)

def I64 (x : Int) : Prop := -9223372036854775808 ≤ x ∧ x < 9223372036854775808
theorem clampN_self {x : Int} (h : -1073741824 ≤ x ∧ x ≤ 1073741824) : clampN x = x := by unfold clampN; (repeat' split) <;> omega

/-- A quotient and what is left, for omega. -/
theorem div_facts (a b : Int) (hb : b ≠ 0) : ∃ p, p = b * a.tdiv b ∧ a = p + a.tmod b ∧ (0 ≤ a → 0 ≤ a.tmod b) ∧ (a ≤ 0 → a.tmod b ≤ 0) ∧ (a.tmod b).natAbs < b.natAbs ∧ (a.tdiv b).natAbs ≤ a.natAbs ∧ (2 ≤ b.natAbs → 2 * (a.tdiv b).natAbs ≤ a.natAbs) ∧ (b = 1 → a.tdiv b = a) ∧ (b = -1 → a.tdiv b = -a) ∧ (a.tmod b).natAbs ≤ a.natAbs := by
  refine ⟨b * a.tdiv b, rfl, ?_, ?_, ?_, ?_, ?_, ?_, ?_, ?_, ?_⟩
  · have := Int.tmod_add_mul_tdiv a b
    omega
  · exact fun h => Int.tmod_nonneg b h
  · intro h
    have h1 := Int.tmod_nonneg (a := -a) b (by omega)
    rw [Int.neg_tmod] at h1
    omega
  · rw [Int.natAbs_tmod]
    exact Nat.mod_lt _ (by omega)
  · rw [Int.natAbs_tdiv]
    exact Nat.div_le_self _ _
  · intro h
    rw [Int.natAbs_tdiv]
    have h1 : a.natAbs / b.natAbs ≤ a.natAbs / 2 := Nat.div_le_div_left h (by omega)
    have h2 : Nat.div a.natAbs b.natAbs = a.natAbs / b.natAbs := rfl
    omega
  · rintro rfl; exact Int.tdiv_one a
  · rintro rfl; rw [Int.tdiv_neg, Int.tdiv_one]
  · rw [Int.natAbs_tmod]; exact Nat.mod_le _ _

section
variable {call : SCall} {n : Nat} {h : SHeap}
theorem flN_range {a b : Int} (ha : I64 a) (hb : I64 b) (h0 : b ≠ 0) (hx : ¬ (b = -1 ∧ a < -1073741824)) : I64 (Int.tdiv a b) ∧ I64 (Int.tmod a b) ∧ (Int.tmod a b ≠ 0 → I64 (Int.tdiv a b - 1)) := by
  obtain ⟨p, hp, h1, h2, h3, h4, h5, h6, h7, h8, h9⟩ := div_facts a b h0
  unfold I64 at *
  generalize Int.tdiv a b = q at *
  generalize Int.tmod a b = r at *
  refine ⟨?_, ?_, ?_⟩
  · by_cases e : b = 1
    · have := h7 e; omega
    · by_cases e' : b = -1
      · have := h8 e'; omega
      · have := h6 (by omega); omega
  · omega
  · intro hr
    have := h6 (by omega)
    omega
theorem flN_of {a b : Int} : (Int.tmod a b = 0 → flN a b = Int.tdiv a b) ∧ (Int.tmod a b ≠ 0 → flN a b = if (decide (Int.tmod a b < 0) != decide (b < 0)) = true then Int.tdiv a b - 1 else Int.tdiv a b) := by
  unfold flN
  exact ⟨fun h => by rw [if_neg (fun hh => hh.1 h)], fun h => by simp only [h, ne_eq, not_false_eq_true, true_and]⟩
set_option maxHeartbeats 1000000 in
theorem tdiv_walk (hc : ∀ x h, call 79 [.int .i64 x] h = some (.int .i64 (clampN x), h)) {a b : Int} (ha : I64 a) (hb : I64 b) : bodyF Tryz.prog call n 38 [.int .i64 a, .int .i64 b] h = some (.int .i64 (divN a b), h) := by
  refine call_is Tryz.func38 rfl (by simp [Tryz.f38]) ?_
  have hr : Tryz.f38.results.toList = [.tmp 4] := rfl
  by_cases h0 : b = 0
  · subst h0
    simp only [wk_seq, wk_block, wk_region, wkl_nil, wkl_cons, wk_cond, wkc_bool, wk_skip, wk_exit, wk_ret, ap_top, ap_seqN, ap_seqE, ap_seqR, ap_blkN, ap_blkE, ap_blkR, ap_invN, ap_invE, ap_invR, want_none, sop, wkr_some, wkr_map, wko_some, ev_tmp, ev_const, ev_func, tmps0, Tr.get_put, Tr.get_set, get_leaf, callS, evs, List.map_cons, List.map_nil, ↓reduceIte, Option.some.injEq, Nat.reduceEqDiff, bin_lss, bin_leq, bin_gtr, bin_geq, bin_eql, bin_neq, bin_add, bin_sub, bin_mul, max2, min2, resS, resV, decide_eq_true_eq, decide_eq_false_iff_not, beq_iff_eq, true_and, and_true, or_true, true_or, exists_eq_left', Option.map_some, Option.map_none, want_some, Option.bind_some, reduceCtorEq, List.nil_append, List.append_nil, List.cons_append, Value.int.injEq, wantD_some, List.getElem?_toArray, List.getElem?_cons_succ, List.getElem?_cons_zero, decide_true, decide_false, beq_self_eq_true, wantG_true, wantG_false, Bool.not_true, Bool.not_false, Bool.false_eq_true, if_true, if_false, flat_bool, flat_int, pure_not, pure_neg, ↓wk_tt, ↓wk_ff, false_implies, true_implies, wantG_undef, hr]
    rfl
  have e0 : (b == 0) = false := by simpa using h0
  have hD : divN a b = clampN (flN a b) := by unfold divN; rw [if_neg h0]
  by_cases hx : b = -1 ∧ a < -1073741824
  · obtain ⟨rfl, hx⟩ := hx
    have ex : decide (a < -1073741824) = true := by simpa using hx
    simp only [wk_seq, wk_block, wk_region, wkl_nil, wkl_cons, wk_cond, wkc_bool, wk_skip, wk_exit, wk_ret, ap_top, ap_seqN, ap_seqE, ap_seqR, ap_blkN, ap_blkE, ap_blkR, ap_invN, ap_invE, ap_invR, want_none, sop, wkr_some, wkr_map, wko_some, ev_tmp, ev_const, ev_func, tmps0, Tr.get_put, Tr.get_set, get_leaf, callS, evs, List.map_cons, List.map_nil, ↓reduceIte, Option.some.injEq, Nat.reduceEqDiff, bin_lss, bin_leq, bin_gtr, bin_geq, bin_eql, bin_neq, bin_add, bin_sub, bin_mul, max2, min2, resS, resV, decide_eq_true_eq, decide_eq_false_iff_not, beq_iff_eq, true_and, and_true, or_true, true_or, exists_eq_left', Option.map_some, Option.map_none, want_some, Option.bind_some, reduceCtorEq, List.nil_append, List.append_nil, List.cons_append, Value.int.injEq, wantD_some, List.getElem?_toArray, List.getElem?_cons_succ, List.getElem?_cons_zero, decide_true, decide_false, beq_self_eq_true, wantG_true, wantG_false, Bool.not_true, Bool.not_false, Bool.false_eq_true, if_true, if_false, flat_bool, flat_int, pure_not, pure_neg, ↓wk_tt, ↓wk_ff, false_implies, true_implies, wantG_undef, hr, e0, ex]
    rw [hD]
    obtain ⟨p, hp, h1, h2, h3, h4, h5, h6, h7, h8, h9⟩ := div_facts a (-1) h0
    have := h8 rfl
    unfold flN
    rw [if_neg (by omega), this]
    unfold clampN
    rw [if_neg (by omega), if_pos (by omega)]
  · obtain ⟨r1, r2, r3⟩ := flN_range ha hb h0 hx
    obtain ⟨f1, f2⟩ := flN_of (a := a) (b := b)
    rw [hD]
    by_cases hm : Int.tmod a b = 0
    · have em : (Int.tmod a b != 0) = false := by simpa using hm
      rw [f1 hm]
      by_cases e1 : b = -1
      · have ex : decide (a < -1073741824) = false := by simp; omega
        subst e1
        simp only [wk_seq, wk_block, wk_region, wkl_nil, wkl_cons, wk_cond, wkc_bool, wk_skip, wk_exit, wk_ret, ap_top, ap_seqN, ap_seqE, ap_seqR, ap_blkN, ap_blkE, ap_blkR, ap_invN, ap_invE, ap_invR, want_none, sop, wkr_some, wkr_map, wko_some, ev_tmp, ev_const, ev_func, tmps0, Tr.get_put, Tr.get_set, get_leaf, callS, evs, List.map_cons, List.map_nil, ↓reduceIte, Option.some.injEq, Nat.reduceEqDiff, bin_lss, bin_leq, bin_gtr, bin_geq, bin_eql, bin_neq, bin_add, bin_sub, bin_mul, max2, min2, resS, resV, decide_eq_true_eq, decide_eq_false_iff_not, beq_iff_eq, true_and, and_true, or_true, true_or, exists_eq_left', Option.map_some, Option.map_none, want_some, Option.bind_some, reduceCtorEq, List.nil_append, List.append_nil, List.cons_append, Value.int.injEq, wantD_some, List.getElem?_toArray, List.getElem?_cons_succ, List.getElem?_cons_zero, decide_true, decide_false, beq_self_eq_true, wantG_true, wantG_false, Bool.not_true, Bool.not_false, Bool.false_eq_true, if_true, if_false, flat_bool, flat_int, pure_not, pure_neg, ↓wk_tt, ↓wk_ff, false_implies, true_implies, wantG_undef, hr, e0, ex]
        refine WK.quiet (by kernel_rfl) ?_
        simp only [wk_seq, wk_block, wk_region, wkl_nil, wkl_cons, wk_cond, wkc_bool, wk_skip, wk_exit, wk_ret, ap_top, ap_seqN, ap_seqE, ap_seqR, ap_blkN, ap_blkE, ap_blkR, ap_invN, ap_invE, ap_invR, want_none, sop, wkr_some, wkr_map, wko_some, ev_tmp, ev_const, ev_func, tmps0, Tr.get_put, Tr.get_set, get_leaf, callS, evs, List.map_cons, List.map_nil, ↓reduceIte, Option.some.injEq, Nat.reduceEqDiff, bin_lss, bin_leq, bin_gtr, bin_geq, bin_eql, bin_neq, bin_add, bin_sub, bin_mul, max2, min2, resS, resV, decide_eq_true_eq, decide_eq_false_iff_not, beq_iff_eq, true_and, and_true, or_true, true_or, exists_eq_left', Option.map_some, Option.map_none, want_some, Option.bind_some, reduceCtorEq, List.nil_append, List.append_nil, List.cons_append, Value.int.injEq, wantD_some, List.getElem?_toArray, List.getElem?_cons_succ, List.getElem?_cons_zero, decide_true, decide_false, beq_self_eq_true, wantG_true, wantG_false, Bool.not_true, Bool.not_false, Bool.false_eq_true, if_true, if_false, flat_bool, flat_int, pure_not, pure_neg, ↓wk_tt, ↓wk_ff, false_implies, true_implies, wantG_undef, hr, bin_quo h0, bin_rem h0, em, hc]
        rw [wrap_id r1.1 r1.2]
      · have ex : (b == -1) = false := by simpa using e1
        simp only [wk_seq, wk_block, wk_region, wkl_nil, wkl_cons, wk_cond, wkc_bool, wk_skip, wk_exit, wk_ret, ap_top, ap_seqN, ap_seqE, ap_seqR, ap_blkN, ap_blkE, ap_blkR, ap_invN, ap_invE, ap_invR, want_none, sop, wkr_some, wkr_map, wko_some, ev_tmp, ev_const, ev_func, tmps0, Tr.get_put, Tr.get_set, get_leaf, callS, evs, List.map_cons, List.map_nil, ↓reduceIte, Option.some.injEq, Nat.reduceEqDiff, bin_lss, bin_leq, bin_gtr, bin_geq, bin_eql, bin_neq, bin_add, bin_sub, bin_mul, max2, min2, resS, resV, decide_eq_true_eq, decide_eq_false_iff_not, beq_iff_eq, true_and, and_true, or_true, true_or, exists_eq_left', Option.map_some, Option.map_none, want_some, Option.bind_some, reduceCtorEq, List.nil_append, List.append_nil, List.cons_append, Value.int.injEq, wantD_some, List.getElem?_toArray, List.getElem?_cons_succ, List.getElem?_cons_zero, decide_true, decide_false, beq_self_eq_true, wantG_true, wantG_false, Bool.not_true, Bool.not_false, Bool.false_eq_true, if_true, if_false, flat_bool, flat_int, pure_not, pure_neg, ↓wk_tt, ↓wk_ff, false_implies, true_implies, wantG_undef, hr, e0, ex]
        refine WK.quiet (by kernel_rfl) ?_
        simp only [wk_seq, wk_block, wk_region, wkl_nil, wkl_cons, wk_cond, wkc_bool, wk_skip, wk_exit, wk_ret, ap_top, ap_seqN, ap_seqE, ap_seqR, ap_blkN, ap_blkE, ap_blkR, ap_invN, ap_invE, ap_invR, want_none, sop, wkr_some, wkr_map, wko_some, ev_tmp, ev_const, ev_func, tmps0, Tr.get_put, Tr.get_set, get_leaf, callS, evs, List.map_cons, List.map_nil, ↓reduceIte, Option.some.injEq, Nat.reduceEqDiff, bin_lss, bin_leq, bin_gtr, bin_geq, bin_eql, bin_neq, bin_add, bin_sub, bin_mul, max2, min2, resS, resV, decide_eq_true_eq, decide_eq_false_iff_not, beq_iff_eq, true_and, and_true, or_true, true_or, exists_eq_left', Option.map_some, Option.map_none, want_some, Option.bind_some, reduceCtorEq, List.nil_append, List.append_nil, List.cons_append, Value.int.injEq, wantD_some, List.getElem?_toArray, List.getElem?_cons_succ, List.getElem?_cons_zero, decide_true, decide_false, beq_self_eq_true, wantG_true, wantG_false, Bool.not_true, Bool.not_false, Bool.false_eq_true, if_true, if_false, flat_bool, flat_int, pure_not, pure_neg, ↓wk_tt, ↓wk_ff, false_implies, true_implies, wantG_undef, hr, bin_quo h0, bin_rem h0, em, hc]
        rw [wrap_id r1.1 r1.2]
    · have em : (Int.tmod a b != 0) = true := by simpa using hm
      rw [f2 hm]
      have r4 := r3 hm
      have e1 : b ≠ -1 := by
        rintro rfl
        obtain ⟨p, hp, h1, h2, h3, h4, h5, h6, h7, h8, h9⟩ := div_facts a (-1) h0
        omega
      have ex : (b == -1) = false := by simpa using e1
      simp only [wk_seq, wk_block, wk_region, wkl_nil, wkl_cons, wk_cond, wkc_bool, wk_skip, wk_exit, wk_ret, ap_top, ap_seqN, ap_seqE, ap_seqR, ap_blkN, ap_blkE, ap_blkR, ap_invN, ap_invE, ap_invR, want_none, sop, wkr_some, wkr_map, wko_some, ev_tmp, ev_const, ev_func, tmps0, Tr.get_put, Tr.get_set, get_leaf, callS, evs, List.map_cons, List.map_nil, ↓reduceIte, Option.some.injEq, Nat.reduceEqDiff, bin_lss, bin_leq, bin_gtr, bin_geq, bin_eql, bin_neq, bin_add, bin_sub, bin_mul, max2, min2, resS, resV, decide_eq_true_eq, decide_eq_false_iff_not, beq_iff_eq, true_and, and_true, or_true, true_or, exists_eq_left', Option.map_some, Option.map_none, want_some, Option.bind_some, reduceCtorEq, List.nil_append, List.append_nil, List.cons_append, Value.int.injEq, wantD_some, List.getElem?_toArray, List.getElem?_cons_succ, List.getElem?_cons_zero, decide_true, decide_false, beq_self_eq_true, wantG_true, wantG_false, Bool.not_true, Bool.not_false, Bool.false_eq_true, if_true, if_false, flat_bool, flat_int, pure_not, pure_neg, ↓wk_tt, ↓wk_ff, false_implies, true_implies, wantG_undef, hr, e0, ex]
      refine WK.quiet (by kernel_rfl) ?_
      cases hs : (decide (Int.tmod a b < 0) != decide (b < 0)) with
      | true =>
        simp only [wk_seq, wk_block, wk_region, wkl_nil, wkl_cons, wk_cond, wkc_bool, wk_skip, wk_exit, wk_ret, ap_top, ap_seqN, ap_seqE, ap_seqR, ap_blkN, ap_blkE, ap_blkR, ap_invN, ap_invE, ap_invR, want_none, sop, wkr_some, wkr_map, wko_some, ev_tmp, ev_const, ev_func, tmps0, Tr.get_put, Tr.get_set, get_leaf, callS, evs, List.map_cons, List.map_nil, ↓reduceIte, Option.some.injEq, Nat.reduceEqDiff, bin_lss, bin_leq, bin_gtr, bin_geq, bin_eql, bin_neq, bin_add, bin_sub, bin_mul, max2, min2, resS, resV, decide_eq_true_eq, decide_eq_false_iff_not, beq_iff_eq, true_and, and_true, or_true, true_or, exists_eq_left', Option.map_some, Option.map_none, want_some, Option.bind_some, reduceCtorEq, List.nil_append, List.append_nil, List.cons_append, Value.int.injEq, wantD_some, List.getElem?_toArray, List.getElem?_cons_succ, List.getElem?_cons_zero, decide_true, decide_false, beq_self_eq_true, wantG_true, wantG_false, Bool.not_true, Bool.not_false, Bool.false_eq_true, if_true, if_false, flat_bool, flat_int, pure_not, pure_neg, ↓wk_tt, ↓wk_ff, false_implies, true_implies, wantG_undef, hr, bin_quo h0, bin_rem h0, em, hc, bin_neqb Tryz.underlying4, hs]
        rw [wrap_id r1.1 r1.2, wrap_id r4.1 r4.2]
      | false =>
        simp only [wk_seq, wk_block, wk_region, wkl_nil, wkl_cons, wk_cond, wkc_bool, wk_skip, wk_exit, wk_ret, ap_top, ap_seqN, ap_seqE, ap_seqR, ap_blkN, ap_blkE, ap_blkR, ap_invN, ap_invE, ap_invR, want_none, sop, wkr_some, wkr_map, wko_some, ev_tmp, ev_const, ev_func, tmps0, Tr.get_put, Tr.get_set, get_leaf, callS, evs, List.map_cons, List.map_nil, ↓reduceIte, Option.some.injEq, Nat.reduceEqDiff, bin_lss, bin_leq, bin_gtr, bin_geq, bin_eql, bin_neq, bin_add, bin_sub, bin_mul, max2, min2, resS, resV, decide_eq_true_eq, decide_eq_false_iff_not, beq_iff_eq, true_and, and_true, or_true, true_or, exists_eq_left', Option.map_some, Option.map_none, want_some, Option.bind_some, reduceCtorEq, List.nil_append, List.append_nil, List.cons_append, Value.int.injEq, wantD_some, List.getElem?_toArray, List.getElem?_cons_succ, List.getElem?_cons_zero, decide_true, decide_false, beq_self_eq_true, wantG_true, wantG_false, Bool.not_true, Bool.not_false, Bool.false_eq_true, if_true, if_false, flat_bool, flat_int, pure_not, pure_neg, ↓wk_tt, ↓wk_ff, false_implies, true_implies, wantG_undef, hr, bin_quo h0, bin_rem h0, em, hc, bin_neqb Tryz.underlying4, hs]
        rw [wrap_id r1.1 r1.2]


/-- What the document's text asks is what is left's sign. -/
theorem flN_ref {a b : Int} (hb : b ≠ 0) (hm : Int.tmod a b ≠ 0) : (decide (Int.tmod a b < 0) != decide (b < 0)) = (decide (a < 0) != decide (b < 0)) := by
  obtain ⟨p, hp, h1, h2, h3, h4, h5, h6, h7, h8, h9⟩ := div_facts a b hb
  have e : decide (Int.tmod a b < 0) = decide (a < 0) := by
    apply decide_eq_decide.2
    constructor <;> intro h <;> omega
  rw [e]
def dvN (a b : Int) : Int := if b = 0 then 0 else flN a b
set_option maxHeartbeats 1000000 in
theorem rdiv81_walk {a b : Int} (ha : -4611686018427387904 ≤ a ∧ a ≤ 4611686018427387904) (hb : I64 b) : bodyF Tryz.prog call n 81 [.int .i64 a, .int .i64 b] h = some (.int .i64 (dvN a b), h) := by
  refine call_is Tryz.func81 rfl (by simp [Tryz.f81]) ?_
  have hr : Tryz.f81.results.toList = [.tmp 4] := rfl
  by_cases h0 : b = 0
  · subst h0
    simp only [wk_seq, wk_block, wk_region, wkl_nil, wkl_cons, wk_cond, wkc_bool, wk_skip, wk_exit, wk_ret, ap_top, ap_seqN, ap_seqE, ap_seqR, ap_blkN, ap_blkE, ap_blkR, ap_invN, ap_invE, ap_invR, want_none, sop, wkr_some, wkr_map, wko_some, ev_tmp, ev_const, ev_func, tmps0, Tr.get_put, Tr.get_set, get_leaf, callS, evs, List.map_cons, List.map_nil, ↓reduceIte, Option.some.injEq, Nat.reduceEqDiff, bin_lss, bin_leq, bin_gtr, bin_geq, bin_eql, bin_neq, bin_add, bin_sub, bin_mul, max2, min2, resS, resV, decide_eq_true_eq, decide_eq_false_iff_not, beq_iff_eq, true_and, and_true, or_true, true_or, exists_eq_left', Option.map_some, Option.map_none, want_some, Option.bind_some, reduceCtorEq, List.nil_append, List.append_nil, List.cons_append, Value.int.injEq, wantD_some, List.getElem?_toArray, List.getElem?_cons_succ, List.getElem?_cons_zero, decide_true, decide_false, beq_self_eq_true, wantG_true, wantG_false, Bool.not_true, Bool.not_false, Bool.false_eq_true, if_true, if_false, flat_bool, flat_int, pure_not, pure_neg, ↓wk_tt, ↓wk_ff, false_implies, true_implies, wantG_undef, hr]
    rfl
  have e0 : (b == 0) = false := by simpa using h0
  have hD : dvN a b = flN a b := by unfold dvN; rw [if_neg h0]
  have hqr : I64 (Int.tdiv a b) ∧ (Int.tmod a b ≠ 0 → I64 (Int.tdiv a b - 1)) := by
    obtain ⟨p, hp, h1, h2, h3, h4, h5, h6, h7, h8, h9⟩ := div_facts a b h0
    unfold I64
    omega
  obtain ⟨f1, f2⟩ := flN_of (a := a) (b := b)
  rw [hD]
  by_cases hm : Int.tmod a b = 0
  · have em : (Int.tmod a b != 0) = false := by simpa using hm
    rw [f1 hm]
    simp only [wk_seq, wk_block, wk_region, wkl_nil, wkl_cons, wk_cond, wkc_bool, wk_skip, wk_exit, wk_ret, ap_top, ap_seqN, ap_seqE, ap_seqR, ap_blkN, ap_blkE, ap_blkR, ap_invN, ap_invE, ap_invR, want_none, sop, wkr_some, wkr_map, wko_some, ev_tmp, ev_const, ev_func, tmps0, Tr.get_put, Tr.get_set, get_leaf, callS, evs, List.map_cons, List.map_nil, ↓reduceIte, Option.some.injEq, Nat.reduceEqDiff, bin_lss, bin_leq, bin_gtr, bin_geq, bin_eql, bin_neq, bin_add, bin_sub, bin_mul, max2, min2, resS, resV, decide_eq_true_eq, decide_eq_false_iff_not, beq_iff_eq, true_and, and_true, or_true, true_or, exists_eq_left', Option.map_some, Option.map_none, want_some, Option.bind_some, reduceCtorEq, List.nil_append, List.append_nil, List.cons_append, Value.int.injEq, wantD_some, List.getElem?_toArray, List.getElem?_cons_succ, List.getElem?_cons_zero, decide_true, decide_false, beq_self_eq_true, wantG_true, wantG_false, Bool.not_true, Bool.not_false, Bool.false_eq_true, if_true, if_false, flat_bool, flat_int, pure_not, pure_neg, ↓wk_tt, ↓wk_ff, false_implies, true_implies, wantG_undef, hr, e0, bin_quo h0, bin_rem h0, em]
    rw [wrap_id hqr.1.1 hqr.1.2]
  · have em : (Int.tmod a b != 0) = true := by simpa using hm
    have hrf := flN_ref h0 hm
    rw [f2 hm]
    have r4 := hqr.2 hm
    cases hs : (decide (a < 0) != decide (b < 0)) with
    | true =>
      rw [hs] at hrf
      simp only [wk_seq, wk_block, wk_region, wkl_nil, wkl_cons, wk_cond, wkc_bool, wk_skip, wk_exit, wk_ret, ap_top, ap_seqN, ap_seqE, ap_seqR, ap_blkN, ap_blkE, ap_blkR, ap_invN, ap_invE, ap_invR, want_none, sop, wkr_some, wkr_map, wko_some, ev_tmp, ev_const, ev_func, tmps0, Tr.get_put, Tr.get_set, get_leaf, callS, evs, List.map_cons, List.map_nil, ↓reduceIte, Option.some.injEq, Nat.reduceEqDiff, bin_lss, bin_leq, bin_gtr, bin_geq, bin_eql, bin_neq, bin_add, bin_sub, bin_mul, max2, min2, resS, resV, decide_eq_true_eq, decide_eq_false_iff_not, beq_iff_eq, true_and, and_true, or_true, true_or, exists_eq_left', Option.map_some, Option.map_none, want_some, Option.bind_some, reduceCtorEq, List.nil_append, List.append_nil, List.cons_append, Value.int.injEq, wantD_some, List.getElem?_toArray, List.getElem?_cons_succ, List.getElem?_cons_zero, decide_true, decide_false, beq_self_eq_true, wantG_true, wantG_false, Bool.not_true, Bool.not_false, Bool.false_eq_true, if_true, if_false, flat_bool, flat_int, pure_not, pure_neg, ↓wk_tt, ↓wk_ff, false_implies, true_implies, wantG_undef, hr, e0, bin_quo h0, bin_rem h0, em, bin_neqb Tryz.underlying4, hs, hrf]
      rw [wrap_id hqr.1.1 hqr.1.2, wrap_id r4.1 r4.2]
    | false =>
      rw [hs] at hrf
      simp only [wk_seq, wk_block, wk_region, wkl_nil, wkl_cons, wk_cond, wkc_bool, wk_skip, wk_exit, wk_ret, ap_top, ap_seqN, ap_seqE, ap_seqR, ap_blkN, ap_blkE, ap_blkR, ap_invN, ap_invE, ap_invR, want_none, sop, wkr_some, wkr_map, wko_some, ev_tmp, ev_const, ev_func, tmps0, Tr.get_put, Tr.get_set, get_leaf, callS, evs, List.map_cons, List.map_nil, ↓reduceIte, Option.some.injEq, Nat.reduceEqDiff, bin_lss, bin_leq, bin_gtr, bin_geq, bin_eql, bin_neq, bin_add, bin_sub, bin_mul, max2, min2, resS, resV, decide_eq_true_eq, decide_eq_false_iff_not, beq_iff_eq, true_and, and_true, or_true, true_or, exists_eq_left', Option.map_some, Option.map_none, want_some, Option.bind_some, reduceCtorEq, List.nil_append, List.append_nil, List.cons_append, Value.int.injEq, wantD_some, List.getElem?_toArray, List.getElem?_cons_succ, List.getElem?_cons_zero, decide_true, decide_false, beq_self_eq_true, wantG_true, wantG_false, Bool.not_true, Bool.not_false, Bool.false_eq_true, if_true, if_false, flat_bool, flat_int, pure_not, pure_neg, ↓wk_tt, ↓wk_ff, false_implies, true_implies, wantG_undef, hr, e0, bin_quo h0, bin_rem h0, em, bin_neqb Tryz.underlying4, hs, hrf]
      rw [wrap_id hqr.1.1 hqr.1.2]
set_option maxHeartbeats 1000000 in
theorem rdiv82_walk {a b : Int} (ha : -4611686018427387904 ≤ a ∧ a ≤ 4611686018427387904) (hb : I64 b) : bodyF Tryz.prog call n 82 [.int .i64 a, .int .i64 b] h = some (.int .i64 (dvN a b), h) := by
  refine call_is Tryz.func82 rfl (by simp [Tryz.f82]) ?_
  have hr : Tryz.f82.results.toList = [.tmp 4] := rfl
  by_cases h0 : b = 0
  · subst h0
    simp only [wk_seq, wk_block, wk_region, wkl_nil, wkl_cons, wk_cond, wkc_bool, wk_skip, wk_exit, wk_ret, ap_top, ap_seqN, ap_seqE, ap_seqR, ap_blkN, ap_blkE, ap_blkR, ap_invN, ap_invE, ap_invR, want_none, sop, wkr_some, wkr_map, wko_some, ev_tmp, ev_const, ev_func, tmps0, Tr.get_put, Tr.get_set, get_leaf, callS, evs, List.map_cons, List.map_nil, ↓reduceIte, Option.some.injEq, Nat.reduceEqDiff, bin_lss, bin_leq, bin_gtr, bin_geq, bin_eql, bin_neq, bin_add, bin_sub, bin_mul, max2, min2, resS, resV, decide_eq_true_eq, decide_eq_false_iff_not, beq_iff_eq, true_and, and_true, or_true, true_or, exists_eq_left', Option.map_some, Option.map_none, want_some, Option.bind_some, reduceCtorEq, List.nil_append, List.append_nil, List.cons_append, Value.int.injEq, wantD_some, List.getElem?_toArray, List.getElem?_cons_succ, List.getElem?_cons_zero, decide_true, decide_false, beq_self_eq_true, wantG_true, wantG_false, Bool.not_true, Bool.not_false, Bool.false_eq_true, if_true, if_false, flat_bool, flat_int, pure_not, pure_neg, ↓wk_tt, ↓wk_ff, false_implies, true_implies, wantG_undef, hr]
    rfl
  have e0 : (b == 0) = false := by simpa using h0
  have hD : dvN a b = flN a b := by unfold dvN; rw [if_neg h0]
  have hqr : I64 (Int.tdiv a b) ∧ (Int.tmod a b ≠ 0 → I64 (Int.tdiv a b - 1)) := by
    obtain ⟨p, hp, h1, h2, h3, h4, h5, h6, h7, h8, h9⟩ := div_facts a b h0
    unfold I64
    omega
  obtain ⟨f1, f2⟩ := flN_of (a := a) (b := b)
  rw [hD]
  by_cases hm : Int.tmod a b = 0
  · have em : (Int.tmod a b != 0) = false := by simpa using hm
    rw [f1 hm]
    simp only [wk_seq, wk_block, wk_region, wkl_nil, wkl_cons, wk_cond, wkc_bool, wk_skip, wk_exit, wk_ret, ap_top, ap_seqN, ap_seqE, ap_seqR, ap_blkN, ap_blkE, ap_blkR, ap_invN, ap_invE, ap_invR, want_none, sop, wkr_some, wkr_map, wko_some, ev_tmp, ev_const, ev_func, tmps0, Tr.get_put, Tr.get_set, get_leaf, callS, evs, List.map_cons, List.map_nil, ↓reduceIte, Option.some.injEq, Nat.reduceEqDiff, bin_lss, bin_leq, bin_gtr, bin_geq, bin_eql, bin_neq, bin_add, bin_sub, bin_mul, max2, min2, resS, resV, decide_eq_true_eq, decide_eq_false_iff_not, beq_iff_eq, true_and, and_true, or_true, true_or, exists_eq_left', Option.map_some, Option.map_none, want_some, Option.bind_some, reduceCtorEq, List.nil_append, List.append_nil, List.cons_append, Value.int.injEq, wantD_some, List.getElem?_toArray, List.getElem?_cons_succ, List.getElem?_cons_zero, decide_true, decide_false, beq_self_eq_true, wantG_true, wantG_false, Bool.not_true, Bool.not_false, Bool.false_eq_true, if_true, if_false, flat_bool, flat_int, pure_not, pure_neg, ↓wk_tt, ↓wk_ff, false_implies, true_implies, wantG_undef, hr, e0, bin_quo h0, bin_rem h0, em]
    rw [wrap_id hqr.1.1 hqr.1.2]
  · have em : (Int.tmod a b != 0) = true := by simpa using hm
    have hrf := flN_ref h0 hm
    rw [f2 hm]
    have r4 := hqr.2 hm
    cases hs : (decide (a < 0) != decide (b < 0)) with
    | true =>
      rw [hs] at hrf
      simp only [wk_seq, wk_block, wk_region, wkl_nil, wkl_cons, wk_cond, wkc_bool, wk_skip, wk_exit, wk_ret, ap_top, ap_seqN, ap_seqE, ap_seqR, ap_blkN, ap_blkE, ap_blkR, ap_invN, ap_invE, ap_invR, want_none, sop, wkr_some, wkr_map, wko_some, ev_tmp, ev_const, ev_func, tmps0, Tr.get_put, Tr.get_set, get_leaf, callS, evs, List.map_cons, List.map_nil, ↓reduceIte, Option.some.injEq, Nat.reduceEqDiff, bin_lss, bin_leq, bin_gtr, bin_geq, bin_eql, bin_neq, bin_add, bin_sub, bin_mul, max2, min2, resS, resV, decide_eq_true_eq, decide_eq_false_iff_not, beq_iff_eq, true_and, and_true, or_true, true_or, exists_eq_left', Option.map_some, Option.map_none, want_some, Option.bind_some, reduceCtorEq, List.nil_append, List.append_nil, List.cons_append, Value.int.injEq, wantD_some, List.getElem?_toArray, List.getElem?_cons_succ, List.getElem?_cons_zero, decide_true, decide_false, beq_self_eq_true, wantG_true, wantG_false, Bool.not_true, Bool.not_false, Bool.false_eq_true, if_true, if_false, flat_bool, flat_int, pure_not, pure_neg, ↓wk_tt, ↓wk_ff, false_implies, true_implies, wantG_undef, hr, e0, bin_quo h0, bin_rem h0, em, bin_neqb Tryz.underlying4, hs, hrf]
      rw [wrap_id hqr.1.1 hqr.1.2, wrap_id r4.1 r4.2]
    | false =>
      rw [hs] at hrf
      simp only [wk_seq, wk_block, wk_region, wkl_nil, wkl_cons, wk_cond, wkc_bool, wk_skip, wk_exit, wk_ret, ap_top, ap_seqN, ap_seqE, ap_seqR, ap_blkN, ap_blkE, ap_blkR, ap_invN, ap_invE, ap_invR, want_none, sop, wkr_some, wkr_map, wko_some, ev_tmp, ev_const, ev_func, tmps0, Tr.get_put, Tr.get_set, get_leaf, callS, evs, List.map_cons, List.map_nil, ↓reduceIte, Option.some.injEq, Nat.reduceEqDiff, bin_lss, bin_leq, bin_gtr, bin_geq, bin_eql, bin_neq, bin_add, bin_sub, bin_mul, max2, min2, resS, resV, decide_eq_true_eq, decide_eq_false_iff_not, beq_iff_eq, true_and, and_true, or_true, true_or, exists_eq_left', Option.map_some, Option.map_none, want_some, Option.bind_some, reduceCtorEq, List.nil_append, List.append_nil, List.cons_append, Value.int.injEq, wantD_some, List.getElem?_toArray, List.getElem?_cons_succ, List.getElem?_cons_zero, decide_true, decide_false, beq_self_eq_true, wantG_true, wantG_false, Bool.not_true, Bool.not_false, Bool.false_eq_true, if_true, if_false, flat_bool, flat_int, pure_not, pure_neg, ↓wk_tt, ↓wk_ff, false_implies, true_implies, wantG_undef, hr, e0, bin_quo h0, bin_rem h0, em, bin_neqb Tryz.underlying4, hs, hrf]
      rw [wrap_id hqr.1.1 hqr.1.2]
end
end Go.Proofs.YtdnnjkneablfiaaGreatDoor
