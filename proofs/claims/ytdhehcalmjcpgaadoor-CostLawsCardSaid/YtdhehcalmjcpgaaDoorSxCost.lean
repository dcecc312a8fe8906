/- The reference's sums and products, by the shadow reading. -/
import Derived.Test.YtdhehcalmjcpgaaDoorSxSum
namespace Go.Proofs.YtdhehcalmjcpgaaDoor
open Go Go.Sx
set_option maxRecDepth 100000
set_option linter.unusedSimpArgs false
set_option linter.unusedVariables false

def partN (x : Int) : Int := if x < 0 then 0 else if x > 4611686018427387904 then 4611686018427387904 else x
def satPlus (a b : Int) : Int := if a > 4611686018427387904 - b then 4611686018427387904 else a + b
def satBy (a b : Int) : Int := if a > 0 ∧ b > 4611686018427387904 / a then 4611686018427387904 else a * b

section
variable {call : SCall} {n : Nat} {h : SHeap} {v : Value} {l : List Int}
theorem part_walk {x : Int} : bodyF Tryd.prog call n 81 [.int .i64 x] h = some (.int .i64 (partN x), h) := by
  refine call_is Tryd.func81 rfl (by simp [Tryd.f81]) ?_
  have hr : Tryd.f81.results.toList = [.tmp 2] := rfl
  simp only [wk_seq, wk_block, wk_region, wkl_nil, wkl_cons, wk_cond, wkc_bool, wk_skip, wk_exit, wk_ret, ap_top, ap_seqN, ap_seqE, ap_seqR, ap_blkN, ap_blkE, ap_blkR, ap_invN, ap_invE, ap_invR, want_none, sop, wkr_some, wkr_map, wko_some, ev_tmp, ev_const, ev_func, tmps0, Tr.get_put, Tr.get_set, get_leaf, callS, evs, List.map_cons, List.map_nil, ↓reduceIte, Option.some.injEq, Nat.reduceEqDiff, bin_lss, bin_leq, bin_gtr, bin_geq, bin_eql, bin_neq, bin_add, bin_sub, bin_mul, max2, min2, resS, resV, decide_eq_true_eq, decide_eq_false_iff_not, beq_iff_eq, true_and, and_true, or_true, true_or, exists_eq_left', Option.map_some, Option.map_none, want_some, Option.bind_some, reduceCtorEq, List.nil_append, List.append_nil, List.cons_append, Value.int.injEq, wantD_some, List.getElem?_toArray, List.getElem?_cons_succ, List.getElem?_cons_zero, decide_true, decide_false, beq_self_eq_true, wantG_true, wantG_false, Bool.not_true, Bool.not_false, Bool.false_eq_true, if_true, if_false, flat_bool, flat_int, pure_not, pure_neg, hr, partN]
  refine ⟨fun h1 => ?_, fun h1 => ⟨fun h2 => ?_, fun h2 => ?_⟩⟩
  · rw [if_pos h1]
  · rw [if_neg h1, if_pos h2]
  · rw [if_neg h1, if_neg h2]
theorem plus_walk {a b : Int} (ha : 0 ≤ a ∧ a ≤ 4611686018427387904) (hb : 0 ≤ b ∧ b ≤ 4611686018427387904) : bodyF Tryd.prog call n 80 [.int .i64 a, .int .i64 b] h = some (.int .i64 (satPlus a b), h) := by
  refine call_is Tryd.func80 rfl (by simp [Tryd.f80]) ?_
  have hr : Tryd.f80.results.toList = [.tmp 4] := rfl
  simp only [wk_seq, wk_block, wk_region, wkl_nil, wkl_cons, wk_cond, wkc_bool, wk_skip, wk_exit, wk_ret, ap_top, ap_seqN, ap_seqE, ap_seqR, ap_blkN, ap_blkE, ap_blkR, ap_invN, ap_invE, ap_invR, want_none, sop, wkr_some, wkr_map, wko_some, ev_tmp, ev_const, ev_func, tmps0, Tr.get_put, Tr.get_set, get_leaf, callS, evs, List.map_cons, List.map_nil, ↓reduceIte, Option.some.injEq, Nat.reduceEqDiff, bin_lss, bin_leq, bin_gtr, bin_geq, bin_eql, bin_neq, bin_add, bin_sub, bin_mul, max2, min2, resS, resV, decide_eq_true_eq, decide_eq_false_iff_not, beq_iff_eq, true_and, and_true, or_true, true_or, exists_eq_left', Option.map_some, Option.map_none, want_some, Option.bind_some, reduceCtorEq, List.nil_append, List.append_nil, List.cons_append, Value.int.injEq, wantD_some, List.getElem?_toArray, List.getElem?_cons_succ, List.getElem?_cons_zero, decide_true, decide_false, beq_self_eq_true, wantG_true, wantG_false, Bool.not_true, Bool.not_false, Bool.false_eq_true, if_true, if_false, flat_bool, flat_int, pure_not, pure_neg, hr, satPlus]
  rw [wrap_id (x := 4611686018427387904 - b) (by omega) (by omega)]
  refine ⟨fun h1 => ?_, fun h1 => ?_⟩
  · rw [if_pos h1]
  · rw [if_neg h1, wrap_id (by omega) (by omega)]
theorem by_walk {a b : Int} (ha : 0 ≤ a ∧ a ≤ 4611686018427387904) (hb : 0 ≤ b ∧ b ≤ 4611686018427387904) : bodyF Tryd.prog call n 82 [.int .i64 a, .int .i64 b] h = some (.int .i64 (satBy a b), h) := by
  refine call_is Tryd.func82 rfl (by simp [Tryd.f82]) ?_
  have hr : Tryd.f82.results.toList = [.tmp 4] := rfl
  by_cases h0 : a > 0
  · simp only [wk_seq, wk_block, wk_region, wkl_nil, wkl_cons, wk_cond, wkc_bool, wk_skip, wk_exit, wk_ret, ap_top, ap_seqN, ap_seqE, ap_seqR, ap_blkN, ap_blkE, ap_blkR, ap_invN, ap_invE, ap_invR, want_none, sop, wkr_some, wkr_map, wko_some, ev_tmp, ev_const, ev_func, tmps0, Tr.get_put, Tr.get_set, get_leaf, callS, evs, List.map_cons, List.map_nil, ↓reduceIte, Option.some.injEq, Nat.reduceEqDiff, bin_lss, bin_leq, bin_gtr, bin_geq, bin_eql, bin_neq, bin_add, bin_sub, bin_mul, max2, min2, resS, resV, decide_eq_true_eq, decide_eq_false_iff_not, beq_iff_eq, true_and, and_true, or_true, true_or, exists_eq_left', Option.map_some, Option.map_none, want_some, Option.bind_some, reduceCtorEq, List.nil_append, List.append_nil, List.cons_append, Value.int.injEq, wantD_some, List.getElem?_toArray, List.getElem?_cons_succ, List.getElem?_cons_zero, decide_true, decide_false, beq_self_eq_true, wantG_true, wantG_false, Bool.not_true, Bool.not_false, Bool.false_eq_true, if_true, if_false, flat_bool, flat_int, pure_not, pure_neg, hr, satBy, h0, bin_quo (show a ≠ 0 by omega)]
    have hq : Int.tdiv 4611686018427387904 a = 4611686018427387904 / a := Int.tdiv_eq_ediv_of_nonneg (by omega)
    have h1 : 4611686018427387904 / a ≤ 4611686018427387904 := Int.ediv_le_self _ (by omega)
    have h2 : 0 ≤ 4611686018427387904 / a := Int.ediv_nonneg (by omega) (by omega)
    rw [hq, wrap_id (x := 4611686018427387904 / a) (by omega) (by omega)]
    refine ⟨fun h3 => ?_, fun h3 => ?_⟩
    · rw [if_pos h3]
    · rw [if_neg h3]
      have h4 : a * b ≤ 4611686018427387904 := by
        have := Int.mul_le_mul_of_nonneg_left (show b ≤ 4611686018427387904 / a by omega) (show 0 ≤ a by omega)
        have := Int.mul_ediv_self_le (x := 4611686018427387904) (k := a) (by omega)
        omega
      have h5 : 0 ≤ a * b := Int.mul_nonneg (by omega) hb.1
      rw [wrap_id (by omega) (by omega)]
  · have ha0 : a = 0 := by omega
    subst ha0
    simp only [wk_seq, wk_block, wk_region, wkl_nil, wkl_cons, wk_cond, wkc_bool, wk_skip, wk_exit, wk_ret, ap_top, ap_seqN, ap_seqE, ap_seqR, ap_blkN, ap_blkE, ap_blkR, ap_invN, ap_invE, ap_invR, want_none, sop, wkr_some, wkr_map, wko_some, ev_tmp, ev_const, ev_func, tmps0, Tr.get_put, Tr.get_set, get_leaf, callS, evs, List.map_cons, List.map_nil, ↓reduceIte, Option.some.injEq, Nat.reduceEqDiff, bin_lss, bin_leq, bin_gtr, bin_geq, bin_eql, bin_neq, bin_add, bin_sub, bin_mul, max2, min2, resS, resV, decide_eq_true_eq, decide_eq_false_iff_not, beq_iff_eq, true_and, and_true, or_true, true_or, exists_eq_left', Option.map_some, Option.map_none, want_some, Option.bind_some, reduceCtorEq, List.nil_append, List.append_nil, List.cons_append, Value.int.injEq, wantD_some, List.getElem?_toArray, List.getElem?_cons_succ, List.getElem?_cons_zero, decide_true, decide_false, beq_self_eq_true, wantG_true, wantG_false, Bool.not_true, Bool.not_false, Bool.false_eq_true, if_true, if_false, flat_bool, flat_int, pure_not, pure_neg, hr, satBy, h0]
    refine ⟨fun h => h.elim, fun _ => ?_⟩
    rw [if_neg (fun h => h.1.elim), Int.zero_mul, wrap_id (by omega) (by omega)]
theorem rsum_walk (hp : ∀ x h, call 81 [.int .i64 x] h = some (.int .i64 (partN x), h)) (hq : ∀ a b h, 0 ≤ a ∧ a ≤ 4611686018427387904 → 0 ≤ b ∧ b ≤ 4611686018427387904 → call 80 [.int .i64 a, .int .i64 b] h = some (.int .i64 (satPlus a b), h))
    (hv : IntsAt h v l) (hlen : l.length < 9223372036854775807) (hn : l.length < n) : bodyF Tryd.prog call n 46 [v] h = some (.int .i64 (satSum l), h) := by
  refine call_is Tryd.func46 rfl (by simp [Tryd.f46]) ?_
  have hr : Tryd.f46.results.toList = [.tmp 2] := rfl
  simp only [wk_seq, wk_block, wk_region, wkl_nil, wkl_cons, wk_cond, wkc_bool, wk_skip, wk_exit, wk_ret, ap_top, ap_seqN, ap_seqE, ap_seqR, ap_blkN, ap_blkE, ap_blkR, ap_invN, ap_invE, ap_invR, want_none, sop, wkr_some, wkr_map, wko_some, ev_tmp, ev_const, ev_func, tmps0, Tr.get_put, Tr.get_set, get_leaf, callS, evs, List.map_cons, List.map_nil, ↓reduceIte, Option.some.injEq, Nat.reduceEqDiff, bin_lss, bin_leq, bin_gtr, bin_geq, bin_eql, bin_neq, bin_add, bin_sub, bin_mul, max2, min2, resS, resV, decide_eq_true_eq, decide_eq_false_iff_not, beq_iff_eq, true_and, and_true, or_true, true_or, exists_eq_left', Option.map_some, Option.map_none, want_some, Option.bind_some, reduceCtorEq, List.nil_append, List.append_nil, List.cons_append, Value.int.injEq, wantD_some, List.getElem?_toArray, List.getElem?_cons_succ, List.getElem?_cons_zero, decide_true, decide_false, beq_self_eq_true, wantG_true, wantG_false, Bool.not_true, Bool.not_false, Bool.false_eq_true, if_true, if_false, flat_bool, flat_int, pure_not, pure_neg, hv.len Tryd.underlying28, hr]
  refine WK.loop (fun k s => s.h = h ∧ s.T.get 0 = v ∧ s.T.get 4 = .int .i64 k ∧ s.T.get 3 = .int .i64 (satSum (l.take k))) l.length hn ?_ ?_
  · simp only [wk_seq, wk_block, wk_region, wkl_nil, wkl_cons, wk_cond, wkc_bool, wk_skip, wk_exit, wk_ret, ap_top, ap_seqN, ap_seqE, ap_seqR, ap_blkN, ap_blkE, ap_blkR, ap_invN, ap_invE, ap_invR, want_none, sop, wkr_some, wkr_map, wko_some, ev_tmp, ev_const, ev_func, tmps0, Tr.get_put, Tr.get_set, get_leaf, callS, evs, List.map_cons, List.map_nil, ↓reduceIte, Option.some.injEq, Nat.reduceEqDiff, bin_lss, bin_leq, bin_gtr, bin_geq, bin_eql, bin_neq, bin_add, bin_sub, bin_mul, max2, min2, resS, resV, decide_eq_true_eq, decide_eq_false_iff_not, beq_iff_eq, true_and, and_true, or_true, true_or, exists_eq_left', Option.map_some, Option.map_none, want_some, Option.bind_some, reduceCtorEq, List.nil_append, List.append_nil, List.cons_append, Value.int.injEq, wantD_some, List.getElem?_toArray, List.getElem?_cons_succ, List.getElem?_cons_zero, decide_true, decide_false, beq_self_eq_true, wantG_true, wantG_false, Bool.not_true, Bool.not_false, Bool.false_eq_true, if_true, if_false, flat_bool, flat_int, pure_not, pure_neg]
    exact ⟨rfl, rfl⟩
  · rintro k ⟨T, h1⟩ hk ⟨rfl, h0, h4, h3⟩
    simp only at h0 h4 h3
    simp only [wk_seq, wk_block, wk_region, wkl_nil, wkl_cons, wk_cond, wkc_bool, wk_skip, wk_exit, wk_ret, ap_top, ap_seqN, ap_seqE, ap_seqR, ap_blkN, ap_blkE, ap_blkR, ap_invN, ap_invE, ap_invR, want_none, sop, wkr_some, wkr_map, wko_some, ev_tmp, ev_const, ev_func, tmps0, Tr.get_put, Tr.get_set, get_leaf, callS, evs, List.map_cons, List.map_nil, ↓reduceIte, Option.some.injEq, Nat.reduceEqDiff, bin_lss, bin_leq, bin_gtr, bin_geq, bin_eql, bin_neq, bin_add, bin_sub, bin_mul, max2, min2, resS, resV, decide_eq_true_eq, decide_eq_false_iff_not, beq_iff_eq, true_and, and_true, or_true, true_or, exists_eq_left', Option.map_some, Option.map_none, want_some, Option.bind_some, reduceCtorEq, List.nil_append, List.append_nil, List.cons_append, Value.int.injEq, wantD_some, List.getElem?_toArray, List.getElem?_cons_succ, List.getElem?_cons_zero, decide_true, decide_false, beq_self_eq_true, wantG_true, wantG_false, Bool.not_true, Bool.not_false, Bool.false_eq_true, if_true, if_false, flat_bool, flat_int, pure_not, pure_neg, h0, h4, h3, hv.len Tryd.underlying28]
    refine ⟨fun hlt => ?_, fun hge => ?_⟩
    · have hlt' : k < l.length := by omega
      have hx : l[k]? = some l[k] := List.getElem?_eq_getElem hlt'
      have htk := posSum_take hx
      generalize l[k] = x at hx htk
      obtain ⟨p, hp1, hp2⟩ := hv.idx Tryd.underlying28 sz3 agg3 hx (kd := .i64)
      have hacc := posSum_nonneg (l.take k)
      simp only [wk_seq, wk_block, wk_region, wkl_nil, wkl_cons, wk_cond, wkc_bool, wk_skip, wk_exit, wk_ret, ap_top, ap_seqN, ap_seqE, ap_seqR, ap_blkN, ap_blkE, ap_blkR, ap_invN, ap_invE, ap_invR, want_none, sop, wkr_some, wkr_map, wko_some, ev_tmp, ev_const, ev_func, tmps0, Tr.get_put, Tr.get_set, get_leaf, callS, evs, List.map_cons, List.map_nil, ↓reduceIte, Option.some.injEq, Nat.reduceEqDiff, bin_lss, bin_leq, bin_gtr, bin_geq, bin_eql, bin_neq, bin_add, bin_sub, bin_mul, max2, min2, resS, resV, decide_eq_true_eq, decide_eq_false_iff_not, beq_iff_eq, true_and, and_true, or_true, true_or, exists_eq_left', Option.map_some, Option.map_none, want_some, Option.bind_some, reduceCtorEq, List.nil_append, List.append_nil, List.cons_append, Value.int.injEq, wantD_some, List.getElem?_toArray, List.getElem?_cons_succ, List.getElem?_cons_zero, decide_true, decide_false, beq_self_eq_true, wantG_true, wantG_false, Bool.not_true, Bool.not_false, Bool.false_eq_true, if_true, if_false, flat_bool, flat_int, pure_not, pure_neg, hp1, hp2, h3, h4, h0, hp]
      rw [hq]
      · simp only [wk_seq, wk_block, wk_region, wkl_nil, wkl_cons, wk_cond, wkc_bool, wk_skip, wk_exit, wk_ret, ap_top, ap_seqN, ap_seqE, ap_seqR, ap_blkN, ap_blkE, ap_blkR, ap_invN, ap_invE, ap_invR, want_none, sop, wkr_some, wkr_map, wko_some, ev_tmp, ev_const, ev_func, tmps0, Tr.get_put, Tr.get_set, get_leaf, callS, evs, List.map_cons, List.map_nil, ↓reduceIte, Option.some.injEq, Nat.reduceEqDiff, bin_lss, bin_leq, bin_gtr, bin_geq, bin_eql, bin_neq, bin_add, bin_sub, bin_mul, max2, min2, resS, resV, decide_eq_true_eq, decide_eq_false_iff_not, beq_iff_eq, true_and, and_true, or_true, true_or, exists_eq_left', Option.map_some, Option.map_none, want_some, Option.bind_some, reduceCtorEq, List.nil_append, List.append_nil, List.cons_append, Value.int.injEq, wantD_some, List.getElem?_toArray, List.getElem?_cons_succ, List.getElem?_cons_zero, decide_true, decide_false, beq_self_eq_true, wantG_true, wantG_false, Bool.not_true, Bool.not_false, Bool.false_eq_true, if_true, if_false, flat_bool, flat_int, pure_not, pure_neg, hp1, hp2, h3, h4, h0, hp]
        refine ⟨hlt', ?_, ?_⟩
        · rw [wrap_id (by omega) (by omega)]; rfl
        · unfold satPlus satSum partN
          rw [htk]
          (repeat' split) <;> omega
      · unfold satSum
        split <;> omega
      · unfold partN
        (repeat' split) <;> omega
    · have : k = l.length := by omega
      subst this
      rw [List.take_length]
end
end Go.Proofs.YtdhehcalmjcpgaaDoor
