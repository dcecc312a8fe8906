/- CostLaws, by the shadow reading: it answers true. -/
import Derived.Test.YtdhehcalmjcpgaaDoorSxCs
import Derived.Test.YtdhehcalmjcpgaaDoorSxApp
import Derived.Test.YtdhehcalmjcpgaaDoorSxPl
import Derived.Test.YtdhehcalmjcpgaaDoorSx18
namespace Go.Proofs.YtdhehcalmjcpgaaDoor
open Go Go.Sx
set_option maxRecDepth 100000
set_option linter.unusedSimpArgs false
set_option linter.unusedVariables false

/-- What within tells. -/
def withinN (x n : Int) : Int := if Int.tmod x n < 0 then Int.tmod x n + n else Int.tmod x n
theorem within_range {x n : Int} (hn : 0 < n) : 0 ≤ withinN x n ∧ withinN x n < n := by
  have h1 := Int.natAbs_tmod x n
  have h2 : x.natAbs % n.natAbs < n.natAbs := Nat.mod_lt _ (by omega)
  unfold withinN
  split <;> omega

section
variable {call : SCall} {n : Nat} {h : SHeap}
theorem within_walk {x m : Int} (hm : 0 < m) (hm2 : m < 9223372036854775808) : bodyF Tryd.prog call n 49 [.int .i64 x, .int .i64 m] h = some (.int .i64 (withinN x m), h) := by
  refine call_is Tryd.func49 rfl (by simp [Tryd.f49]) ?_
  have hr : Tryd.f49.results.toList = [.tmp 4] := rfl
  have h1 := Int.natAbs_tmod x m
  have h2 : x.natAbs % m.natAbs < m.natAbs := Nat.mod_lt _ (by omega)
  by_cases hk : Int.tmod x m < 0
  · have e : decide (Int.tmod x m < 0) = true := by simpa using hk
    simp only [wk_seq, wk_block, wk_region, wkl_nil, wkl_cons, wk_cond, wkc_bool, wk_skip, wk_exit, wk_ret, ap_top, ap_seqN, ap_seqE, ap_seqR, ap_blkN, ap_blkE, ap_blkR, ap_invN, ap_invE, ap_invR, want_none, sop, wkr_some, wkr_map, wko_some, ev_tmp, ev_const, ev_func, tmps0, Tr.get_put, Tr.get_set, get_leaf, callS, evs, List.map_cons, List.map_nil, ↓reduceIte, Option.some.injEq, Nat.reduceEqDiff, bin_lss, bin_leq, bin_gtr, bin_geq, bin_eql, bin_neq, bin_add, bin_sub, bin_mul, max2, min2, resS, resV, decide_eq_true_eq, decide_eq_false_iff_not, beq_iff_eq, true_and, and_true, or_true, true_or, exists_eq_left', Option.map_some, Option.map_none, want_some, Option.bind_some, reduceCtorEq, List.nil_append, List.append_nil, List.cons_append, Value.int.injEq, wantD_some, List.getElem?_toArray, List.getElem?_cons_succ, List.getElem?_cons_zero, decide_true, decide_false, beq_self_eq_true, wantG_true, wantG_false, Bool.not_true, Bool.not_false, Bool.false_eq_true, if_true, if_false, flat_bool, flat_int, pure_not, pure_neg, ↓wk_tt, ↓wk_ff, false_implies, true_implies, wantG_undef, hr, bin_rem (show m ≠ 0 by omega), e]
    unfold withinN
    rw [if_pos hk, wrap_id (by omega) (by omega)]
  · have e : decide (Int.tmod x m < 0) = false := by simpa using hk
    simp only [wk_seq, wk_block, wk_region, wkl_nil, wkl_cons, wk_cond, wkc_bool, wk_skip, wk_exit, wk_ret, ap_top, ap_seqN, ap_seqE, ap_seqR, ap_blkN, ap_blkE, ap_blkR, ap_invN, ap_invE, ap_invR, want_none, sop, wkr_some, wkr_map, wko_some, ev_tmp, ev_const, ev_func, tmps0, Tr.get_put, Tr.get_set, get_leaf, callS, evs, List.map_cons, List.map_nil, ↓reduceIte, Option.some.injEq, Nat.reduceEqDiff, bin_lss, bin_leq, bin_gtr, bin_geq, bin_eql, bin_neq, bin_add, bin_sub, bin_mul, max2, min2, resS, resV, decide_eq_true_eq, decide_eq_false_iff_not, beq_iff_eq, true_and, and_true, or_true, true_or, exists_eq_left', Option.map_some, Option.map_none, want_some, Option.bind_some, reduceCtorEq, List.nil_append, List.append_nil, List.cons_append, Value.int.injEq, wantD_some, List.getElem?_toArray, List.getElem?_cons_succ, List.getElem?_cons_zero, decide_true, decide_false, beq_self_eq_true, wantG_true, wantG_false, Bool.not_true, Bool.not_false, Bool.false_eq_true, if_true, if_false, flat_bool, flat_int, pure_not, pure_neg, ↓wk_tt, ↓wk_ff, false_implies, true_implies, wantG_undef, hr, bin_rem (show m ≠ 0 by omega), e]
    unfold withinN
    rw [if_neg hk]

/-- Parts of a slice. -/
theorem part_lo {id off len cap k : Nat} (hk : k ≤ len) (hl : len ≤ cap) (hc : cap < unk) : sliceS Tryd.prog h 28 (.slice (some ⟨id, off, none⟩) len cap) none (some (.int .i64 (k : Int))) none = some (.slice (some ⟨id, off, none⟩) k cap) := by
  have e1 : cap ≠ unk := by omega
  have e2 : ((0 : Nat) : Int) ≤ (k : Int) ∧ (k : Int) ≤ (cap : Int) := by omega
  simp only [sliceS, Tryd.underlying28, sz3, e1, if_false, bound, e2, and_self, if_true, Int.toNat_natCast, Nat.sub_zero, Nat.zero_mul, Option.map_some, Addr.add]
  split <;> rfl
theorem part_hi {id off len cap k : Nat} (hk : k < len) (hl : len ≤ cap) (hc : cap < unk) : sliceS Tryd.prog h 28 (.slice (some ⟨id, off, none⟩) len cap) (some (.int .i64 (k : Int))) none none = some (.slice (some ⟨id, off + k, none⟩) (len - k) (cap - k)) := by
  have e1 : cap ≠ unk := by omega
  have e2 : ((0 : Nat) : Int) ≤ (k : Int) ∧ (k : Int) ≤ (len : Int) := by omega
  have e3 : cap ≠ k := by omega
  simp only [sliceS, Tryd.underlying28, sz3, e1, if_false, bound, e2, and_self, if_true, Int.toNat_natCast, e3, Nat.mul_one, Option.map_some, Addr.add]
  split
  · rename_i h0; subst h0; rfl
  · rfl
theorem part_ints {v : Value} {l : List Int} {id off cap k : Nat} (hv : IntsAt h v l) (e : v = .slice (some ⟨id, off, none⟩) l.length cap) (hk : k ≤ l.length) :
    IntsAt h (.slice (some ⟨id, off, none⟩) k cap) (l.take k) ∧ IntsAt h (.slice (some ⟨id, off + k, none⟩) (l.length - k) (cap - k)) (l.drop k) := by
  obtain ⟨a, c, rfl, hsp, hall⟩ := hv
  cases e
  refine ⟨⟨_, _, by rw [List.length_take, Nat.min_eq_left hk], fun b hb => (by cases hb; rfl), fun i x hi => ?_⟩, ⟨_, _, by rw [List.length_drop], fun b hb => (by cases hb; rfl), fun i x hi => ?_⟩⟩
  · have hlt : i < k := by
      have := (List.getElem?_eq_some_iff.1 hi).1
      simp at this
      omega
    rw [List.getElem?_take_of_lt hlt] at hi
    obtain ⟨id', off', cs, ty, g, ro, e, h1, h2⟩ := hall i x hi
    cases e
    exact ⟨_, _, cs, ty, g, ro, rfl, h1, h2⟩
  · rw [List.getElem?_drop] at hi
    obtain ⟨id', off', cs, ty, g, ro, e, h1, h2⟩ := hall (k + i) x hi
    cases e
    exact ⟨_, _, cs, ty, g, ro, rfl, h1, by rw [Nat.add_assoc]; exact h2⟩
/-- Two numbers laid in a slice. -/
theorem two_build {a b : Int} (hw : wf h) : buildSliceS Tryd.prog h 28 2 [(0, .int .i64 a), (1, .int .i64 b)] = some (.slice (some ⟨h.next, 0, none⟩) 2 2, h.push (.row [.int .i64 a, .int .i64 b] 3 false false)) := by
  have e5 : (Value.int .i64 0).cells = #[.int .i64 0] := rfl
  have e6 : (Value.int .i64 a).cells = #[.int .i64 a] := rfl
  have e7 : (Value.int .i64 b).cells = #[.int .i64 b] := rfl
  simp [buildSliceS, Tryd.underlying28, sz3, zero3, flat, flat1, e5, e6, e7, fillS, zeros, lay]
theorem two_ints {a b : Int} : IntsAt (h.push (.row [.int .i64 a, .int .i64 b] 3 false false)) (.slice (some ⟨h.next, 0, none⟩) 2 2) [a, b] :=
  ⟨_, _, rfl, fun b hb => (by cases hb; rfl), fun i x hi => ⟨_, _, _, _, _, _, rfl, get_push_new, by
    match i, hi with
    | 0, hi => simp at hi; subst hi; rfl
    | 1, hi => simp at hi; subst hi; rfl
    | i + 2, hi => simp at hi⟩⟩
end
end Go.Proofs.YtdhehcalmjcpgaaDoor
