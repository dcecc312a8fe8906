/- Sum, by the shadow reading: the saturating sum. -/
import Derived.Test.YtdhehcalmjcpgaaDoorSx17
import Derived.Test.YtdhehcalmjcpgaaDoorSxW
namespace Go.Proofs.YtdhehcalmjcpgaaDoor
open Go Go.Sx
set_option maxRecDepth 100000
set_option linter.unusedSimpArgs false
set_option linter.unusedVariables false

theorem sz3 : szOf Tryd.prog 3 = some 1 := by kernel_rfl
theorem agg3 : aggOf Tryd.prog 3 = some false := by kernel_rfl

/-- The sum of what is above 0. -/
def posSum : List Int → Int
  | [] => 0
  | x :: l => (if x < 0 then 0 else x) + posSum l
def satSum (l : List Int) : Int := if posSum l > 4611686018427387904 then 4611686018427387904 else posSum l

theorem posSum_append (a b : List Int) : posSum (a ++ b) = posSum a + posSum b := by
  induction a with
  | nil => simp [posSum]
  | cons x a ih => simp only [List.cons_append, posSum, ih]; omega
theorem posSum_nonneg (a : List Int) : 0 ≤ posSum a := by
  induction a with
  | nil => simp [posSum]
  | cons x a ih => simp only [posSum]; split <;> omega
theorem posSum_take {l : List Int} {k : Nat} {x : Int} (hk : l[k]? = some x) : posSum (l.take (k + 1)) = posSum (l.take k) + (if x < 0 then 0 else x) := by
  rw [List.take_add_one, hk, posSum_append]
  simp [posSum]
theorem posSum_le {l : List Int} (k : Nat) : posSum (l.take k) ≤ posSum l := by
  have h := posSum_append (l.take k) (l.drop k)
  rw [List.take_append_drop] at h
  have := posSum_nonneg (l.drop k)
  omega

def In64 (l : List Int) : Prop := ∀ x ∈ l, -9223372036854775808 ≤ x ∧ x < 9223372036854775808

section
variable {call : SCall} {n : Nat} {h : SHeap} {v : Value} {l : List Int}
theorem sum_walk (hv : IntsAt h v l) (hl : In64 l) (hlen : l.length < 9223372036854775807) (hn : l.length < n) : bodyF Tryd.prog call n 43 [v] h = some (.int .i64 (satSum l), h) := by
  refine call_is Tryd.func43 rfl (by simp [Tryd.f43]) ?_
  have hr : Tryd.f43.results.toList = [.tmp 2] := rfl
  simp only [wk_seq, wk_block, wk_region, wkl_nil, wkl_cons, wk_cond, wkc_bool, wk_skip, wk_exit, wk_ret, ap_top, ap_seqN, ap_seqE, ap_seqR, ap_blkN, ap_blkE, ap_blkR, ap_invN, ap_invE, ap_invR, want_none, sop, wkr_some, wkr_map, wko_some, ev_tmp, ev_const, ev_func, tmps0, Tr.get_put, Tr.get_set, get_leaf, callS, evs, List.map_cons, List.map_nil, ↓reduceIte, Option.some.injEq, Nat.reduceEqDiff, bin_lss, bin_leq, bin_gtr, bin_geq, bin_eql, bin_neq, bin_add, bin_sub, bin_mul, max2, min2, resS, resV, decide_eq_true_eq, decide_eq_false_iff_not, beq_iff_eq, true_and, and_true, or_true, true_or, exists_eq_left', Option.map_some, Option.map_none, want_some, Option.bind_some, reduceCtorEq, List.nil_append, List.append_nil, List.cons_append, Value.int.injEq, wantD_some, List.getElem?_toArray, List.getElem?_cons_succ, List.getElem?_cons_zero, decide_true, decide_false, beq_self_eq_true, wantG_true, wantG_false, Bool.not_true, Bool.not_false, Bool.false_eq_true, if_true, if_false, flat_bool, flat_int, pure_not, pure_neg, hv.len Tryd.underlying28, hr]
  refine WK.loop (fun k s => s.h = h ∧ s.T.get 6 = v ∧ s.T.get 7 = .int .i64 l.length ∧ s.T.get 8 = .int .i64 k ∧ ∃ acc, s.T.get 3 = .int .i64 acc ∧ acc = posSum (l.take k) ∧ acc ≤ 4611686018427387904) l.length hn ?_ ?_
  · simp only [wk_seq, wk_block, wk_region, wkl_nil, wkl_cons, wk_cond, wkc_bool, wk_skip, wk_exit, wk_ret, ap_top, ap_seqN, ap_seqE, ap_seqR, ap_blkN, ap_blkE, ap_blkR, ap_invN, ap_invE, ap_invR, want_none, sop, wkr_some, wkr_map, wko_some, ev_tmp, ev_const, ev_func, tmps0, Tr.get_put, Tr.get_set, get_leaf, callS, evs, List.map_cons, List.map_nil, ↓reduceIte, Option.some.injEq, Nat.reduceEqDiff, bin_lss, bin_leq, bin_gtr, bin_geq, bin_eql, bin_neq, bin_add, bin_sub, bin_mul, max2, min2, resS, resV, decide_eq_true_eq, decide_eq_false_iff_not, beq_iff_eq, true_and, and_true, or_true, true_or, exists_eq_left', Option.map_some, Option.map_none, want_some, Option.bind_some, reduceCtorEq, List.nil_append, List.append_nil, List.cons_append, Value.int.injEq, wantD_some, List.getElem?_toArray, List.getElem?_cons_succ, List.getElem?_cons_zero, decide_true, decide_false, beq_self_eq_true, wantG_true, wantG_false, Bool.not_true, Bool.not_false, Bool.false_eq_true, if_true, if_false, flat_bool, flat_int, pure_not, pure_neg]
    exact ⟨rfl, by simp [posSum], by omega⟩
  · rintro k ⟨T, h1⟩ hk ⟨rfl, h6, h7, h8, acc, h3, ha, hb⟩
    simp only at h6 h7 h8 h3
    have hacc := posSum_nonneg (l.take k)
    simp only [wk_seq, wk_block, wk_region, wkl_nil, wkl_cons, wk_cond, wkc_bool, wk_skip, wk_exit, wk_ret, ap_top, ap_seqN, ap_seqE, ap_seqR, ap_blkN, ap_blkE, ap_blkR, ap_invN, ap_invE, ap_invR, want_none, sop, wkr_some, wkr_map, wko_some, ev_tmp, ev_const, ev_func, tmps0, Tr.get_put, Tr.get_set, get_leaf, callS, evs, List.map_cons, List.map_nil, ↓reduceIte, Option.some.injEq, Nat.reduceEqDiff, bin_lss, bin_leq, bin_gtr, bin_geq, bin_eql, bin_neq, bin_add, bin_sub, bin_mul, max2, min2, resS, resV, decide_eq_true_eq, decide_eq_false_iff_not, beq_iff_eq, true_and, and_true, or_true, true_or, exists_eq_left', Option.map_some, Option.map_none, want_some, Option.bind_some, reduceCtorEq, List.nil_append, List.append_nil, List.cons_append, Value.int.injEq, wantD_some, List.getElem?_toArray, List.getElem?_cons_succ, List.getElem?_cons_zero, decide_true, decide_false, beq_self_eq_true, wantG_true, wantG_false, Bool.not_true, Bool.not_false, Bool.false_eq_true, if_true, if_false, flat_bool, flat_int, pure_not, pure_neg, h6, h7, h8, h3]
    refine ⟨fun hlt => ?_, fun hge => ?_⟩
    · have hlt' : k < l.length := by omega
      have hx : l[k]? = some l[k] := List.getElem?_eq_getElem hlt'
      have hin := hl l[k] (List.getElem_mem hlt')
      have htk := posSum_take hx
      have hle := posSum_le (l := l) (k + 1)
      generalize l[k] = x at hx hin htk
      obtain ⟨p, hp1, hp2⟩ := hv.idx Tryd.underlying28 sz3 agg3 hx (kd := .i64)
      simp only [wk_seq, wk_block, wk_region, wkl_nil, wkl_cons, wk_cond, wkc_bool, wk_skip, wk_exit, wk_ret, ap_top, ap_seqN, ap_seqE, ap_seqR, ap_blkN, ap_blkE, ap_blkR, ap_invN, ap_invE, ap_invR, want_none, sop, wkr_some, wkr_map, wko_some, ev_tmp, ev_const, ev_func, tmps0, Tr.get_put, Tr.get_set, get_leaf, callS, evs, List.map_cons, List.map_nil, ↓reduceIte, Option.some.injEq, Nat.reduceEqDiff, bin_lss, bin_leq, bin_gtr, bin_geq, bin_eql, bin_neq, bin_add, bin_sub, bin_mul, max2, min2, resS, resV, decide_eq_true_eq, decide_eq_false_iff_not, beq_iff_eq, true_and, and_true, or_true, true_or, exists_eq_left', Option.map_some, Option.map_none, want_some, Option.bind_some, reduceCtorEq, List.nil_append, List.append_nil, List.cons_append, Value.int.injEq, wantD_some, List.getElem?_toArray, List.getElem?_cons_succ, List.getElem?_cons_zero, decide_true, decide_false, beq_self_eq_true, wantG_true, wantG_false, Bool.not_true, Bool.not_false, Bool.false_eq_true, if_true, if_false, flat_bool, flat_int, pure_not, pure_neg, hp1, hp2, h3, h6, h7, h8]
      have hm : (if (0 : Int) > x then 0 else x) = (if x < 0 then 0 else x) := rfl
      rw [hm]
      have hm0 : 0 ≤ (if x < 0 then (0 : Int) else x) ∧ (if x < 0 then (0 : Int) else x) < 9223372036854775808 := by split <;> omega
      generalize (if x < 0 then (0 : Int) else x) = m at htk hm0
      rw [wrap_id (x := 4611686018427387904 - acc) (by omega) (by omega)]
      refine ⟨fun hgt => ?_, fun hle' => ⟨hlt', ?_, ?_, ?_⟩⟩
      · unfold satSum
        rw [if_pos (by omega)]
      · rw [wrap_id (by omega) (by omega)]; rfl
      · rw [wrap_id (by omega) (by omega)]; omega
      · rw [wrap_id (by omega) (by omega)]; omega
    · have : k = l.length := by omega
      subst this
      rw [List.take_length] at ha
      unfold satSum
      rw [if_neg (by omega), ha]
end
end Go.Proofs.YtdhehcalmjcpgaaDoor
