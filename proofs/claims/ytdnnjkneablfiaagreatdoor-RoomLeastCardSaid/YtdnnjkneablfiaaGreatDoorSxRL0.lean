/- Least spans by trying all numbers: the parts of RoomLeast, walked. -/
import Derived.Test.YtdnnjkneablfiaaGreatDoorSxRSM
namespace Go.Proofs.YtdnnjkneablfiaaGreatDoor
open Go Go.Sx
set_option maxRecDepth 100000
set_option linter.unusedSimpArgs false
set_option linter.unusedVariables false

/-! ### A number stored in a span -/
noncomputable def st3 (h : SHeap) (id off : Nat) (a : Int) : SObj → Option SHeap
  | .row [x, y] ty g false => if h.floor ≤ id then (match off with
      | 0 => some (h.put id (.row [.int .i64 a, y] ty g false))
      | 1 => some (h.put id (.row [x, .int .i64 a] ty g false))
      | _ => storeS Tryz.prog h 3 (.pointer (some ⟨id, off, none⟩)) (.int .i64 a)) else storeS Tryz.prog h 3 (.pointer (some ⟨id, off, none⟩)) (.int .i64 a)
  | _ => storeS Tryz.prog h 3 (.pointer (some ⟨id, off, none⟩)) (.int .i64 a)
theorem st3_eq {h : SHeap} {id off : Nat} {a : Int} : storeS Tryz.prog h 3 (.pointer (some ⟨id, off, none⟩)) (.int .i64 a) = st3 h id off a (h.get id) := by
  unfold st3
  split
  · rename_i x y ty g hg
    split
    · rename_i hf
      split
      · simp [storeS, sz3, storeRow, hg, hf, Go.Sx.lay, Value.cells, one]
      · simp [storeS, sz3, storeRow, hg, hf, Go.Sx.lay, Value.cells, one]
      · rfl
    · rfl
  · rfl
theorem st3_0 {h : SHeap} {id : Nat} {a : Int} {x y : Value} {ty : TypeId} {g : Bool} (hf : h.floor ≤ id) : st3 h id 0 a (.row [x, y] ty g false) = some (h.put id (.row [.int .i64 a, y] ty g false)) := by
  simp only [st3, hf, if_true]
theorem st3_1 {h : SHeap} {id : Nat} {a : Int} {x y : Value} {ty : TypeId} {g : Bool} (hf : h.floor ≤ id) : st3 h id 1 a (.row [x, y] ty g false) = some (h.put id (.row [x, .int .i64 a] ty g false)) := by
  simp only [st3, hf, if_true]

section
variable {call : SCall} {n : Nat}
theorem small_walk {a b : Int} : ∃ h', bodyF Tryz.prog call n 21 [.int .i64 a, .int .i64 b] (deadH 1 0) = some (spanV (a.tmod 30) (IntKind.i64.wrap (a.tmod 30 + b.tmod 20)), h') ∧ True := by
  refine call_ex (R := fun _ => True) Tryz.func21 rfl (by simp [Tryz.f21]) ?_
  have hr : Tryz.f21.results.toList = [.cell 4 23] := rfl
  simp only [wk_seq, wk_block, wk_region, wkl_nil, wkl_cons, wk_cond, wkc_bool, wk_skip, wk_exit, wk_ret, ap_top, ap_seqN, ap_seqE, ap_seqR, ap_blkN, ap_blkE, ap_blkR, ap_invN, ap_invE, ap_invR, want_none, sop, wkr_some, wkr_map, wko_some, ev_tmp, ev_const, ev_func, tmps0, Tr.get_put, Tr.get_set, get_leaf, callS, evs, List.map_cons, List.map_nil, ↓reduceIte, Option.some.injEq, Nat.reduceEqDiff, bin_lss, bin_leq, bin_gtr, bin_geq, bin_eql, bin_neq, bin_add, bin_sub, bin_mul, max2, min2, resS, resV, decide_eq_true_eq, decide_eq_false_iff_not, beq_iff_eq, true_and, and_true, or_true, true_or, exists_eq_left', Option.map_some, Option.map_none, want_some, Option.bind_some, reduceCtorEq, List.nil_append, List.append_nil, List.cons_append, Value.int.injEq, wantD_some, List.getElem?_toArray, List.getElem?_cons_succ, List.getElem?_cons_zero, decide_true, decide_false, beq_self_eq_true, wantG_true, wantG_false, Bool.not_true, Bool.not_false, Bool.false_eq_true, if_true, if_false, flat_bool, flat_int, pure_not, pure_neg, ↓wk_tt, ↓wk_ff, false_implies, true_implies, wantG_undef, cells_agg, all2_one, sz23, push_next, push_floor, put_next, put_floor, dead_next, dead_floor, zero23, flat_span, field_lo, field_hi, ld23_eq, ld3_eq, st23_eq, get_push', get_put', ld23_row, ld3_0, ld3_1, st23_row, build_span, build_lo, build_none, Nat.reduceAdd, Nat.reduceLT, Nat.zero_le, exists_eq_left', List.map_cons, fl_fl, fl_self, hr, bin_rem (show (30 : Int) ≠ 0 by decide), bin_rem (show (20 : Int) ≠ 0 by decide), Nat.reduceLeDiff]

def madeW (kind x y : Int) : Int :=
  if kind = 45 then IntKind.i64.wrap (x + y) else if kind = 46 then IntKind.i64.wrap (x - y) else if kind = 43 then IntKind.i64.wrap (x * y) else if kind = 44 then dvN x y
  else if kind = 41 then IntKind.i64.wrap (0 - x) else if kind = 39 then (if x > y then y else x) else (if x < y then y else x)
theorem made_walk (h82 : ∀ a b h, (-4611686018427387904 ≤ a ∧ a ≤ 4611686018427387904) → I64 b → call 82 [.int .i64 a, .int .i64 b] h = some (.int .i64 (dvN a b), h))
    {kind x y : Int} {h : SHeap} (hx : -4611686018427387904 ≤ x ∧ x ≤ 4611686018427387904) (hy : I64 y) : bodyF Tryz.prog call n 45 [.int .i64 kind, .int .i64 x, .int .i64 y] h = some (.int .i64 (madeW kind x y), h) := by
  refine call_is Tryz.func45 rfl (by simp [Tryz.f45]) ?_
  have hr : Tryz.f45.results.toList = [.tmp 6] := rfl
  have h82' := fun h => h82 x y h hx hy
  unfold madeW
  by_cases k1 : kind = 45
  · subst k1; simp only [wk_seq, wk_block, wk_region, wkl_nil, wkl_cons, wk_cond, wkc_bool, wk_skip, wk_exit, wk_ret, ap_top, ap_seqN, ap_seqE, ap_seqR, ap_blkN, ap_blkE, ap_blkR, ap_invN, ap_invE, ap_invR, want_none, sop, wkr_some, wkr_map, wko_some, ev_tmp, ev_const, ev_func, tmps0, Tr.get_put, Tr.get_set, get_leaf, callS, evs, List.map_cons, List.map_nil, ↓reduceIte, Option.some.injEq, Nat.reduceEqDiff, bin_lss, bin_leq, bin_gtr, bin_geq, bin_eql, bin_neq, bin_add, bin_sub, bin_mul, max2, min2, resS, resV, decide_eq_true_eq, decide_eq_false_iff_not, beq_iff_eq, true_and, and_true, or_true, true_or, exists_eq_left', Option.map_some, Option.map_none, want_some, Option.bind_some, reduceCtorEq, List.nil_append, List.append_nil, List.cons_append, Value.int.injEq, wantD_some, List.getElem?_toArray, List.getElem?_cons_succ, List.getElem?_cons_zero, decide_true, decide_false, beq_self_eq_true, wantG_true, wantG_false, Bool.not_true, Bool.not_false, Bool.false_eq_true, if_true, if_false, flat_bool, flat_int, pure_not, pure_neg, ↓wk_tt, ↓wk_ff, false_implies, true_implies, wantG_undef, hr]
  have e1 : (kind == 45) = false := by simpa using k1
  by_cases k2 : kind = 46
  · subst k2; simp only [wk_seq, wk_block, wk_region, wkl_nil, wkl_cons, wk_cond, wkc_bool, wk_skip, wk_exit, wk_ret, ap_top, ap_seqN, ap_seqE, ap_seqR, ap_blkN, ap_blkE, ap_blkR, ap_invN, ap_invE, ap_invR, want_none, sop, wkr_some, wkr_map, wko_some, ev_tmp, ev_const, ev_func, tmps0, Tr.get_put, Tr.get_set, get_leaf, callS, evs, List.map_cons, List.map_nil, ↓reduceIte, Option.some.injEq, Nat.reduceEqDiff, bin_lss, bin_leq, bin_gtr, bin_geq, bin_eql, bin_neq, bin_add, bin_sub, bin_mul, max2, min2, resS, resV, decide_eq_true_eq, decide_eq_false_iff_not, beq_iff_eq, true_and, and_true, or_true, true_or, exists_eq_left', Option.map_some, Option.map_none, want_some, Option.bind_some, reduceCtorEq, List.nil_append, List.append_nil, List.cons_append, Value.int.injEq, wantD_some, List.getElem?_toArray, List.getElem?_cons_succ, List.getElem?_cons_zero, decide_true, decide_false, beq_self_eq_true, wantG_true, wantG_false, Bool.not_true, Bool.not_false, Bool.false_eq_true, if_true, if_false, flat_bool, flat_int, pure_not, pure_neg, ↓wk_tt, ↓wk_ff, false_implies, true_implies, wantG_undef, hr, e1]; rfl
  have e2 : (kind == 46) = false := by simpa using k2
  by_cases k3 : kind = 43
  · subst k3; simp only [wk_seq, wk_block, wk_region, wkl_nil, wkl_cons, wk_cond, wkc_bool, wk_skip, wk_exit, wk_ret, ap_top, ap_seqN, ap_seqE, ap_seqR, ap_blkN, ap_blkE, ap_blkR, ap_invN, ap_invE, ap_invR, want_none, sop, wkr_some, wkr_map, wko_some, ev_tmp, ev_const, ev_func, tmps0, Tr.get_put, Tr.get_set, get_leaf, callS, evs, List.map_cons, List.map_nil, ↓reduceIte, Option.some.injEq, Nat.reduceEqDiff, bin_lss, bin_leq, bin_gtr, bin_geq, bin_eql, bin_neq, bin_add, bin_sub, bin_mul, max2, min2, resS, resV, decide_eq_true_eq, decide_eq_false_iff_not, beq_iff_eq, true_and, and_true, or_true, true_or, exists_eq_left', Option.map_some, Option.map_none, want_some, Option.bind_some, reduceCtorEq, List.nil_append, List.append_nil, List.cons_append, Value.int.injEq, wantD_some, List.getElem?_toArray, List.getElem?_cons_succ, List.getElem?_cons_zero, decide_true, decide_false, beq_self_eq_true, wantG_true, wantG_false, Bool.not_true, Bool.not_false, Bool.false_eq_true, if_true, if_false, flat_bool, flat_int, pure_not, pure_neg, ↓wk_tt, ↓wk_ff, false_implies, true_implies, wantG_undef, hr, e1, e2]; rfl
  have e3 : (kind == 43) = false := by simpa using k3
  by_cases k4 : kind = 44
  · subst k4; simp only [wk_seq, wk_block, wk_region, wkl_nil, wkl_cons, wk_cond, wkc_bool, wk_skip, wk_exit, wk_ret, ap_top, ap_seqN, ap_seqE, ap_seqR, ap_blkN, ap_blkE, ap_blkR, ap_invN, ap_invE, ap_invR, want_none, sop, wkr_some, wkr_map, wko_some, ev_tmp, ev_const, ev_func, tmps0, Tr.get_put, Tr.get_set, get_leaf, callS, evs, List.map_cons, List.map_nil, ↓reduceIte, Option.some.injEq, Nat.reduceEqDiff, bin_lss, bin_leq, bin_gtr, bin_geq, bin_eql, bin_neq, bin_add, bin_sub, bin_mul, max2, min2, resS, resV, decide_eq_true_eq, decide_eq_false_iff_not, beq_iff_eq, true_and, and_true, or_true, true_or, exists_eq_left', Option.map_some, Option.map_none, want_some, Option.bind_some, reduceCtorEq, List.nil_append, List.append_nil, List.cons_append, Value.int.injEq, wantD_some, List.getElem?_toArray, List.getElem?_cons_succ, List.getElem?_cons_zero, decide_true, decide_false, beq_self_eq_true, wantG_true, wantG_false, Bool.not_true, Bool.not_false, Bool.false_eq_true, if_true, if_false, flat_bool, flat_int, pure_not, pure_neg, ↓wk_tt, ↓wk_ff, false_implies, true_implies, wantG_undef, hr, e1, e2, e3, h82']; rfl
  have e4 : (kind == 44) = false := by simpa using k4
  by_cases k5 : kind = 41
  · subst k5; simp only [wk_seq, wk_block, wk_region, wkl_nil, wkl_cons, wk_cond, wkc_bool, wk_skip, wk_exit, wk_ret, ap_top, ap_seqN, ap_seqE, ap_seqR, ap_blkN, ap_blkE, ap_blkR, ap_invN, ap_invE, ap_invR, want_none, sop, wkr_some, wkr_map, wko_some, ev_tmp, ev_const, ev_func, tmps0, Tr.get_put, Tr.get_set, get_leaf, callS, evs, List.map_cons, List.map_nil, ↓reduceIte, Option.some.injEq, Nat.reduceEqDiff, bin_lss, bin_leq, bin_gtr, bin_geq, bin_eql, bin_neq, bin_add, bin_sub, bin_mul, max2, min2, resS, resV, decide_eq_true_eq, decide_eq_false_iff_not, beq_iff_eq, true_and, and_true, or_true, true_or, exists_eq_left', Option.map_some, Option.map_none, want_some, Option.bind_some, reduceCtorEq, List.nil_append, List.append_nil, List.cons_append, Value.int.injEq, wantD_some, List.getElem?_toArray, List.getElem?_cons_succ, List.getElem?_cons_zero, decide_true, decide_false, beq_self_eq_true, wantG_true, wantG_false, Bool.not_true, Bool.not_false, Bool.false_eq_true, if_true, if_false, flat_bool, flat_int, pure_not, pure_neg, ↓wk_tt, ↓wk_ff, false_implies, true_implies, wantG_undef, hr, e1, e2, e3, e4]; rfl
  have e5 : (kind == 41) = false := by simpa using k5
  by_cases k6 : kind = 39
  · subst k6
    by_cases hxy : x > y
    · have c : decide (x > y) = true := by simpa using hxy
      simp only [wk_seq, wk_block, wk_region, wkl_nil, wkl_cons, wk_cond, wkc_bool, wk_skip, wk_exit, wk_ret, ap_top, ap_seqN, ap_seqE, ap_seqR, ap_blkN, ap_blkE, ap_blkR, ap_invN, ap_invE, ap_invR, want_none, sop, wkr_some, wkr_map, wko_some, ev_tmp, ev_const, ev_func, tmps0, Tr.get_put, Tr.get_set, get_leaf, callS, evs, List.map_cons, List.map_nil, ↓reduceIte, Option.some.injEq, Nat.reduceEqDiff, bin_lss, bin_leq, bin_gtr, bin_geq, bin_eql, bin_neq, bin_add, bin_sub, bin_mul, max2, min2, resS, resV, decide_eq_true_eq, decide_eq_false_iff_not, beq_iff_eq, true_and, and_true, or_true, true_or, exists_eq_left', Option.map_some, Option.map_none, want_some, Option.bind_some, reduceCtorEq, List.nil_append, List.append_nil, List.cons_append, Value.int.injEq, wantD_some, List.getElem?_toArray, List.getElem?_cons_succ, List.getElem?_cons_zero, decide_true, decide_false, beq_self_eq_true, wantG_true, wantG_false, Bool.not_true, Bool.not_false, Bool.false_eq_true, if_true, if_false, flat_bool, flat_int, pure_not, pure_neg, ↓wk_tt, ↓wk_ff, false_implies, true_implies, wantG_undef, hr, e1, e2, e3, e4, e5, c]
      (rw [if_pos hxy]; rfl)
    · have c : decide (x > y) = false := by simpa using hxy
      simp only [wk_seq, wk_block, wk_region, wkl_nil, wkl_cons, wk_cond, wkc_bool, wk_skip, wk_exit, wk_ret, ap_top, ap_seqN, ap_seqE, ap_seqR, ap_blkN, ap_blkE, ap_blkR, ap_invN, ap_invE, ap_invR, want_none, sop, wkr_some, wkr_map, wko_some, ev_tmp, ev_const, ev_func, tmps0, Tr.get_put, Tr.get_set, get_leaf, callS, evs, List.map_cons, List.map_nil, ↓reduceIte, Option.some.injEq, Nat.reduceEqDiff, bin_lss, bin_leq, bin_gtr, bin_geq, bin_eql, bin_neq, bin_add, bin_sub, bin_mul, max2, min2, resS, resV, decide_eq_true_eq, decide_eq_false_iff_not, beq_iff_eq, true_and, and_true, or_true, true_or, exists_eq_left', Option.map_some, Option.map_none, want_some, Option.bind_some, reduceCtorEq, List.nil_append, List.append_nil, List.cons_append, Value.int.injEq, wantD_some, List.getElem?_toArray, List.getElem?_cons_succ, List.getElem?_cons_zero, decide_true, decide_false, beq_self_eq_true, wantG_true, wantG_false, Bool.not_true, Bool.not_false, Bool.false_eq_true, if_true, if_false, flat_bool, flat_int, pure_not, pure_neg, ↓wk_tt, ↓wk_ff, false_implies, true_implies, wantG_undef, hr, e1, e2, e3, e4, e5, c]
      (rw [if_neg hxy]; rfl)
  have e6 : (kind == 39) = false := by simpa using k6
  rw [if_neg k1, if_neg k2, if_neg k3, if_neg k4, if_neg k5, if_neg k6]
  by_cases hxy : x < y
  · have c : decide (x < y) = true := by simpa using hxy
    simp only [wk_seq, wk_block, wk_region, wkl_nil, wkl_cons, wk_cond, wkc_bool, wk_skip, wk_exit, wk_ret, ap_top, ap_seqN, ap_seqE, ap_seqR, ap_blkN, ap_blkE, ap_blkR, ap_invN, ap_invE, ap_invR, want_none, sop, wkr_some, wkr_map, wko_some, ev_tmp, ev_const, ev_func, tmps0, Tr.get_put, Tr.get_set, get_leaf, callS, evs, List.map_cons, List.map_nil, ↓reduceIte, Option.some.injEq, Nat.reduceEqDiff, bin_lss, bin_leq, bin_gtr, bin_geq, bin_eql, bin_neq, bin_add, bin_sub, bin_mul, max2, min2, resS, resV, decide_eq_true_eq, decide_eq_false_iff_not, beq_iff_eq, true_and, and_true, or_true, true_or, exists_eq_left', Option.map_some, Option.map_none, want_some, Option.bind_some, reduceCtorEq, List.nil_append, List.append_nil, List.cons_append, Value.int.injEq, wantD_some, List.getElem?_toArray, List.getElem?_cons_succ, List.getElem?_cons_zero, decide_true, decide_false, beq_self_eq_true, wantG_true, wantG_false, Bool.not_true, Bool.not_false, Bool.false_eq_true, if_true, if_false, flat_bool, flat_int, pure_not, pure_neg, ↓wk_tt, ↓wk_ff, false_implies, true_implies, wantG_undef, hr, e1, e2, e3, e4, e5, e6, c, hxy]
  · have c : decide (x < y) = false := by simpa using hxy
    simp only [wk_seq, wk_block, wk_region, wkl_nil, wkl_cons, wk_cond, wkc_bool, wk_skip, wk_exit, wk_ret, ap_top, ap_seqN, ap_seqE, ap_seqR, ap_blkN, ap_blkE, ap_blkR, ap_invN, ap_invE, ap_invR, want_none, sop, wkr_some, wkr_map, wko_some, ev_tmp, ev_const, ev_func, tmps0, Tr.get_put, Tr.get_set, get_leaf, callS, evs, List.map_cons, List.map_nil, ↓reduceIte, Option.some.injEq, Nat.reduceEqDiff, bin_lss, bin_leq, bin_gtr, bin_geq, bin_eql, bin_neq, bin_add, bin_sub, bin_mul, max2, min2, resS, resV, decide_eq_true_eq, decide_eq_false_iff_not, beq_iff_eq, true_and, and_true, or_true, true_or, exists_eq_left', Option.map_some, Option.map_none, want_some, Option.bind_some, reduceCtorEq, List.nil_append, List.append_nil, List.cons_append, Value.int.injEq, wantD_some, List.getElem?_toArray, List.getElem?_cons_succ, List.getElem?_cons_zero, decide_true, decide_false, beq_self_eq_true, wantG_true, wantG_false, Bool.not_true, Bool.not_false, Bool.false_eq_true, if_true, if_false, flat_bool, flat_int, pure_not, pure_neg, ↓wk_tt, ↓wk_ff, false_implies, true_implies, wantG_undef, hr, e1, e2, e3, e4, e5, e6, c, hxy]

/-! ### All numbers of a span -/
def upto (a b : Int) : List Int := (List.range (b + 1 - a).toNat).map fun (i : Nat) => a + (i : Int)
theorem upto_len {a b : Int} : (upto a b).length = (b + 1 - a).toNat := by simp [upto]
theorem upto_get {a b : Int} {i : Nat} (h : i < (b + 1 - a).toNat) : (upto a b)[i]? = some (a + (i : Int)) := by simp [upto, h]
theorem mem_upto {a b x : Int} : x ∈ upto a b ↔ a ≤ x ∧ x ≤ b := by
  unfold upto
  rw [List.mem_map]
  constructor
  · rintro ⟨i, hi, rfl⟩
    rw [List.mem_range] at hi
    omega
  · rintro ⟨h1, h2⟩
    exact ⟨(x - a).toNat, by rw [List.mem_range]; omega, by omega⟩
def rawOf (F : Int → Int → Int) (xs ys : List Int) : List Int := xs.flatMap fun x => ys.map (F x)
theorem mem_rawOf {F : Int → Int → Int} {xs ys : List Int} {c : Int} : c ∈ rawOf F xs ys ↔ ∃ x ∈ xs, ∃ y ∈ ys, F x y = c := by simp [rawOf]
theorem rawOf_take {F : Int → Int → Int} {xs ys : List Int} {i : Nat} {x : Int} (hx : xs[i]? = some x) : rawOf F (xs.take (i + 1)) ys = rawOf F (xs.take i) ys ++ ys.map (F x) := by
  unfold rawOf
  rw [List.take_add_one, hx, List.flatMap_append]
  simp
theorem mapF_take {F : Int → Int → Int} {ys : List Int} {x y : Int} {j : Nat} (hy : ys[j]? = some y) : (ys.take (j + 1)).map (F x) = (ys.take j).map (F x) ++ [F x y] := by
  rw [List.take_add_one, hy, List.map_append]
  rfl
theorem chain_snoc {o : Int × Int} {l : List Int} {c : Int} : chain o (l ++ [c]) = joinN (chain o l).1 (chain o l).2 c c := by rw [chain_append]; rfl
theorem chain_le {l : List Int} (h : l ≠ []) : (chain (1, 0) l).1 ≤ (chain (1, 0) l).2 := by
  obtain ⟨h1, h2, h3⟩ := chain_hull h
  exact (h3 _ h1).2

set_option maxHeartbeats 16000000 in
theorem hull_walk {kind a1 a2 b1 b2 : Int} (ra : -1000 ≤ a1 ∧ a1 ≤ 1000 ∧ -1000 ≤ a2 ∧ a2 ≤ 1000) (rb : -1000 ≤ b1 ∧ b1 ≤ 1000 ∧ -1000 ≤ b2 ∧ b2 ≤ 1000) (hN : (a2 + 1 - a1).toNat < n) (hM : (b2 + 1 - b1).toNat < n)
    (h45 : ∀ x y h, (-4611686018427387904 ≤ x ∧ x ≤ 4611686018427387904) → I64 y → call 45 [.int .i64 kind, .int .i64 x, .int .i64 y] h = some (.int .i64 (madeW kind x y), h)) :
    ∃ h', bodyF Tryz.prog call n 22 [spanV a1 a2, spanV b1 b2, .int .i64 kind] (deadH 1 0) = some (spanV (chain (1, 0) (rawOf (madeW kind) (upto a1 a2) (upto b1 b2))).1 (chain (1, 0) (rawOf (madeW kind) (upto a1 a2) (upto b1 b2))).2, h') ∧ True := by
  refine call_ex (R := fun _ => True) Tryz.func22 rfl (by simp [Tryz.f22]) ?_
  have hr : Tryz.f22.results.toList = [.cell 6 23] := rfl
  simp only [wk_seq, wk_block, wk_region, wkl_nil, wkl_cons, wk_cond, wkc_bool, wk_skip, wk_exit, wk_ret, ap_top, ap_seqN, ap_seqE, ap_seqR, ap_blkN, ap_blkE, ap_blkR, ap_invN, ap_invE, ap_invR, want_none, sop, wkr_some, wkr_map, wko_some, ev_tmp, ev_const, ev_func, tmps0, Tr.get_put, Tr.get_set, get_leaf, callS, evs, List.map_cons, List.map_nil, ↓reduceIte, Option.some.injEq, Nat.reduceEqDiff, bin_lss, bin_leq, bin_gtr, bin_geq, bin_eql, bin_neq, bin_add, bin_sub, bin_mul, max2, min2, resS, resV, decide_eq_true_eq, decide_eq_false_iff_not, beq_iff_eq, true_and, and_true, or_true, true_or, exists_eq_left', Option.map_some, Option.map_none, want_some, Option.bind_some, reduceCtorEq, List.nil_append, List.append_nil, List.cons_append, Value.int.injEq, wantD_some, List.getElem?_toArray, List.getElem?_cons_succ, List.getElem?_cons_zero, decide_true, decide_false, beq_self_eq_true, wantG_true, wantG_false, Bool.not_true, Bool.not_false, Bool.false_eq_true, if_true, if_false, flat_bool, flat_int, pure_not, pure_neg, ↓wk_tt, ↓wk_ff, false_implies, true_implies, wantG_undef, cells_agg, all2_one, sz23, push_next, push_floor, put_next, put_floor, dead_next, dead_floor, zero23, flat_span, field_lo, field_hi, ld23_eq, ld3_eq, st23_eq, get_push', get_put', ld23_row, ld3_0, ld3_1, st23_row, build_span, build_lo, build_none, Nat.reduceAdd, Nat.reduceLT, Nat.zero_le, exists_eq_left', List.map_cons, fl_fl, fl_self, hr, Nat.reduceLeDiff]
  refine WK.loop (fun i s => s.h.floor = 0 ∧ s.h.next = 5 ∧ s.h.get 1 = .row [.int .i64 a1, .int .i64 a2] 23 false false ∧ s.h.get 2 = .row [.int .i64 b1, .int .i64 b2] 23 false false ∧ s.h.get 3 = .row [.int .i64 0, .int .i64 0] 23 false false ∧
    s.h.get 4 = .row [.int .i64 (chain (1, 0) (rawOf (madeW kind) ((upto a1 a2).take i) (upto b1 b2))).1, .int .i64 (chain (1, 0) (rawOf (madeW kind) ((upto a1 a2).take i) (upto b1 b2))).2] 23 false false ∧
    s.T.get 2 = .int .i64 kind ∧ s.T.get 3 = .pointer (some ⟨1, 0, none⟩) ∧ s.T.get 4 = .pointer (some ⟨2, 0, none⟩) ∧ s.T.get 6 = .pointer (some ⟨3, 0, none⟩) ∧ s.T.get 7 = .pointer (some ⟨4, 0, none⟩) ∧
    s.T.get 8 = .bool (rawOf (madeW kind) ((upto a1 a2).take i) (upto b1 b2)).isEmpty ∧ s.T.get 9 = .int .i64 (a1 + (i : Int))) (a2 + 1 - a1).toNat hN ?_ ?_
  · simp only [wk_seq, wk_block, wk_region, wkl_nil, wkl_cons, wk_cond, wkc_bool, wk_skip, wk_exit, wk_ret, ap_top, ap_seqN, ap_seqE, ap_seqR, ap_blkN, ap_blkE, ap_blkR, ap_invN, ap_invE, ap_invR, want_none, sop, wkr_some, wkr_map, wko_some, ev_tmp, ev_const, ev_func, tmps0, Tr.get_put, Tr.get_set, get_leaf, callS, evs, List.map_cons, List.map_nil, ↓reduceIte, Option.some.injEq, Nat.reduceEqDiff, bin_lss, bin_leq, bin_gtr, bin_geq, bin_eql, bin_neq, bin_add, bin_sub, bin_mul, max2, min2, resS, resV, decide_eq_true_eq, decide_eq_false_iff_not, beq_iff_eq, true_and, and_true, or_true, true_or, exists_eq_left', Option.map_some, Option.map_none, want_some, Option.bind_some, reduceCtorEq, List.nil_append, List.append_nil, List.cons_append, Value.int.injEq, wantD_some, List.getElem?_toArray, List.getElem?_cons_succ, List.getElem?_cons_zero, decide_true, decide_false, beq_self_eq_true, wantG_true, wantG_false, Bool.not_true, Bool.not_false, Bool.false_eq_true, if_true, if_false, flat_bool, flat_int, pure_not, pure_neg, ↓wk_tt, ↓wk_ff, false_implies, true_implies, wantG_undef, cells_agg, all2_one, sz23, push_next, push_floor, put_next, put_floor, dead_next, dead_floor, zero23, flat_span, field_lo, field_hi, ld23_eq, ld3_eq, st23_eq, get_push', get_put', ld23_row, ld3_0, ld3_1, st23_row, build_span, build_lo, build_none, Nat.reduceAdd, Nat.reduceLT, Nat.zero_le, exists_eq_left', List.map_cons, fl_fl, fl_self, hr]
    exact ⟨rfl, rfl, by simp⟩
  · rintro i ⟨T1, h1⟩ hi ⟨i1, i2, g1, g2, g3, g4, t2, t3, t4, t6, t7, t8, t9⟩
    simp only at i1 i2 g1 g2 g3 g4 t2 t3 t4 t6 t7 t8 t9
    generalize hL : rawOf (madeW kind) ((upto a1 a2).take i) (upto b1 b2) = L at g4 t8
    by_cases hlt : i < (a2 + 1 - a1).toNat
    · have c1 : decide (a1 + (i : Int) ≤ a2) = true := by simp; omega
      have hx := upto_get hlt
      have hst := rawOf_take (F := madeW kind) (ys := upto b1 b2) hx
      rw [hL] at hst
      have w9 : IntKind.i64.wrap (a1 + (i : Int) + 1) = a1 + ((i + 1 : Nat) : Int) := by rw [wrap_id (by omega) (by omega)]; omega
      simp only [wk_seq, wk_block, wk_region, wkl_nil, wkl_cons, wk_cond, wkc_bool, wk_skip, wk_exit, wk_ret, ap_top, ap_seqN, ap_seqE, ap_seqR, ap_blkN, ap_blkE, ap_blkR, ap_invN, ap_invE, ap_invR, want_none, sop, wkr_some, wkr_map, wko_some, ev_tmp, ev_const, ev_func, tmps0, Tr.get_put, Tr.get_set, get_leaf, callS, evs, List.map_cons, List.map_nil, ↓reduceIte, Option.some.injEq, Nat.reduceEqDiff, bin_lss, bin_leq, bin_gtr, bin_geq, bin_eql, bin_neq, bin_add, bin_sub, bin_mul, max2, min2, resS, resV, decide_eq_true_eq, decide_eq_false_iff_not, beq_iff_eq, true_and, and_true, or_true, true_or, exists_eq_left', Option.map_some, Option.map_none, want_some, Option.bind_some, reduceCtorEq, List.nil_append, List.append_nil, List.cons_append, Value.int.injEq, wantD_some, List.getElem?_toArray, List.getElem?_cons_succ, List.getElem?_cons_zero, decide_true, decide_false, beq_self_eq_true, wantG_true, wantG_false, Bool.not_true, Bool.not_false, Bool.false_eq_true, if_true, if_false, flat_bool, flat_int, pure_not, pure_neg, ↓wk_tt, ↓wk_ff, false_implies, true_implies, wantG_undef, cells_agg, all2_one, sz23, push_next, push_floor, put_next, put_floor, dead_next, dead_floor, zero23, flat_span, field_lo, field_hi, ld23_eq, ld3_eq, st23_eq, get_push', get_put', ld23_row, ld3_0, ld3_1, st23_row, build_span, build_lo, build_none, Nat.reduceAdd, Nat.reduceLT, Nat.zero_le, exists_eq_left', List.map_cons, fl_fl, fl_self, t2, t3, t4, t6, t7, t8, t9, g1, g2, c1]
      refine WK.loop (fun j s => s.h.floor = 0 ∧ s.h.next = 5 ∧ s.h.get 1 = .row [.int .i64 a1, .int .i64 a2] 23 false false ∧ s.h.get 2 = .row [.int .i64 b1, .int .i64 b2] 23 false false ∧ s.h.get 3 = .row [.int .i64 0, .int .i64 0] 23 false false ∧
        s.h.get 4 = .row [.int .i64 (chain (1, 0) (L ++ ((upto b1 b2).take j).map (madeW kind (a1 + (i : Int))))).1, .int .i64 (chain (1, 0) (L ++ ((upto b1 b2).take j).map (madeW kind (a1 + (i : Int))))).2] 23 false false ∧
        s.T.get 2 = .int .i64 kind ∧ s.T.get 3 = .pointer (some ⟨1, 0, none⟩) ∧ s.T.get 4 = .pointer (some ⟨2, 0, none⟩) ∧ s.T.get 6 = .pointer (some ⟨3, 0, none⟩) ∧ s.T.get 7 = .pointer (some ⟨4, 0, none⟩) ∧
        s.T.get 8 = .bool (L ++ ((upto b1 b2).take j).map (madeW kind (a1 + (i : Int)))).isEmpty ∧ s.T.get 9 = .int .i64 (a1 + (i : Int)) ∧ s.T.get 10 = .int .i64 (b1 + (j : Int))) (b2 + 1 - b1).toNat hM ?_ ?_
      · simp only [wk_seq, wk_block, wk_region, wkl_nil, wkl_cons, wk_cond, wkc_bool, wk_skip, wk_exit, wk_ret, ap_top, ap_seqN, ap_seqE, ap_seqR, ap_blkN, ap_blkE, ap_blkR, ap_invN, ap_invE, ap_invR, want_none, sop, wkr_some, wkr_map, wko_some, ev_tmp, ev_const, ev_func, tmps0, Tr.get_put, Tr.get_set, get_leaf, callS, evs, List.map_cons, List.map_nil, ↓reduceIte, Option.some.injEq, Nat.reduceEqDiff, bin_lss, bin_leq, bin_gtr, bin_geq, bin_eql, bin_neq, bin_add, bin_sub, bin_mul, max2, min2, resS, resV, decide_eq_true_eq, decide_eq_false_iff_not, beq_iff_eq, true_and, and_true, or_true, true_or, exists_eq_left', Option.map_some, Option.map_none, want_some, Option.bind_some, reduceCtorEq, List.nil_append, List.append_nil, List.cons_append, Value.int.injEq, wantD_some, List.getElem?_toArray, List.getElem?_cons_succ, List.getElem?_cons_zero, decide_true, decide_false, beq_self_eq_true, wantG_true, wantG_false, Bool.not_true, Bool.not_false, Bool.false_eq_true, if_true, if_false, flat_bool, flat_int, pure_not, pure_neg, ↓wk_tt, ↓wk_ff, false_implies, true_implies, wantG_undef, cells_agg, all2_one, sz23, push_next, push_floor, put_next, put_floor, dead_next, dead_floor, zero23, flat_span, field_lo, field_hi, ld23_eq, ld3_eq, st23_eq, get_push', get_put', ld23_row, ld3_0, ld3_1, st23_row, build_span, build_lo, build_none, Nat.reduceAdd, Nat.reduceLT, Nat.zero_le, exists_eq_left', List.map_cons, fl_fl, fl_self, t2, t3, t4, t6, t7, t8, t9]
        exact ⟨i1, i2, g1, g2, g3, by simpa using g4, by simp, by simp⟩
      · rintro j ⟨T2, h2⟩ hj ⟨j1, j2, q1, q2, q3, q4, u2, u3, u4, u6, u7, u8, u9, u10⟩
        simp only at j1 j2 q1 q2 q3 q4 u2 u3 u4 u6 u7 u8 u9 u10
        by_cases hjlt : j < (b2 + 1 - b1).toNat
        · have c2 : decide (b1 + (j : Int) ≤ b2) = true := by simp; omega
          have hy := upto_get hjlt
          have hm := mapF_take (F := madeW kind) (x := a1 + (i : Int)) hy
          have w10 : IntKind.i64.wrap (b1 + (j : Int) + 1) = b1 + ((j + 1 : Nat) : Int) := by rw [wrap_id (by omega) (by omega)]; omega
          have h45' := fun hh => h45 (a1 + (i : Int)) (b1 + (j : Int)) hh (by omega) (by unfold I64; omega)
          generalize hV : madeW kind (a1 + (i : Int)) (b1 + (j : Int)) = V at hm h45'
          generalize hM : L ++ ((upto b1 b2).take j).map (madeW kind (a1 + (i : Int))) = M at q4 u8
          have hm2 : L ++ ((upto b1 b2).take (j + 1)).map (madeW kind (a1 + (i : Int))) = M ++ [V] := by rw [hm, ← List.append_assoc, hM]
          rw [hm2, chain_snoc]
          have hne : (M ++ [V]).isEmpty = false := by cases M <;> rfl
          rw [hne]
          have hfp : ∀ o, (h2.put 4 o).floor ≤ 4 := fun o => by rw [put_floor, j1]; omega
          have hf2 : h2.floor ≤ 4 := by omega
          by_cases hM0 : M = []
          · subst hM0
            have e1 : (chain (1, 0) ([] : List Int)) = (1, 0) := rfl
            have u8' : T2.get 8 = .bool true := u8
            rw [e1, join_first] at *
            simp only [wk_seq, wk_block, wk_region, wkl_nil, wkl_cons, wk_cond, wkc_bool, wk_skip, wk_exit, wk_ret, ap_top, ap_seqN, ap_seqE, ap_seqR, ap_blkN, ap_blkE, ap_blkR, ap_invN, ap_invE, ap_invR, want_none, sop, wkr_some, wkr_map, wko_some, ev_tmp, ev_const, ev_func, tmps0, Tr.get_put, Tr.get_set, get_leaf, callS, evs, List.map_cons, List.map_nil, ↓reduceIte, Option.some.injEq, Nat.reduceEqDiff, bin_lss, bin_leq, bin_gtr, bin_geq, bin_eql, bin_neq, bin_add, bin_sub, bin_mul, max2, min2, resS, resV, decide_eq_true_eq, decide_eq_false_iff_not, beq_iff_eq, true_and, and_true, or_true, true_or, exists_eq_left', Option.map_some, Option.map_none, want_some, Option.bind_some, reduceCtorEq, List.nil_append, List.append_nil, List.cons_append, Value.int.injEq, wantD_some, List.getElem?_toArray, List.getElem?_cons_succ, List.getElem?_cons_zero, decide_true, decide_false, beq_self_eq_true, wantG_true, wantG_false, Bool.not_true, Bool.not_false, Bool.false_eq_true, if_true, if_false, flat_bool, flat_int, pure_not, pure_neg, ↓wk_tt, ↓wk_ff, false_implies, true_implies, wantG_undef, cells_agg, all2_one, sz23, push_next, push_floor, put_next, put_floor, dead_next, dead_floor, zero23, flat_span, field_lo, field_hi, ld23_eq, ld3_eq, st23_eq, get_push', get_put', ld23_row, ld3_0, ld3_1, st23_row, build_span, build_lo, build_none, Nat.reduceAdd, Nat.reduceLT, Nat.zero_le, exists_eq_left', List.map_cons, fl_fl, fl_self, u2, u3, u4, u6, u7, u8', u9, u10, q1, q2, q4, c2, h45', w10, st3_eq, st3_0 hf2, st3_1 (hfp _), j2]
            exact ⟨hjlt, j1, q3⟩
          · have e8 : M.isEmpty = false := by cases M <;> simp_all
            have hle := chain_le hM0
            rw [e8] at u8
            generalize chain (1, 0) M = q at q4 hle
            rw [joinN_b hle (Int.le_refl V)]
            cases d1 : decide (V < q.1) <;> cases d2 : decide (V > q.2)
            · rw [decide_eq_false_iff_not] at d1 d2
              have d1' : decide (V < q.1) = false := decide_eq_false d1
              have d2' : decide (V > q.2) = false := decide_eq_false d2
              rw [if_neg d1, if_neg d2]
              simp only [wk_seq, wk_block, wk_region, wkl_nil, wkl_cons, wk_cond, wkc_bool, wk_skip, wk_exit, wk_ret, ap_top, ap_seqN, ap_seqE, ap_seqR, ap_blkN, ap_blkE, ap_blkR, ap_invN, ap_invE, ap_invR, want_none, sop, wkr_some, wkr_map, wko_some, ev_tmp, ev_const, ev_func, tmps0, Tr.get_put, Tr.get_set, get_leaf, callS, evs, List.map_cons, List.map_nil, ↓reduceIte, Option.some.injEq, Nat.reduceEqDiff, bin_lss, bin_leq, bin_gtr, bin_geq, bin_eql, bin_neq, bin_add, bin_sub, bin_mul, max2, min2, resS, resV, decide_eq_true_eq, decide_eq_false_iff_not, beq_iff_eq, true_and, and_true, or_true, true_or, exists_eq_left', Option.map_some, Option.map_none, want_some, Option.bind_some, reduceCtorEq, List.nil_append, List.append_nil, List.cons_append, Value.int.injEq, wantD_some, List.getElem?_toArray, List.getElem?_cons_succ, List.getElem?_cons_zero, decide_true, decide_false, beq_self_eq_true, wantG_true, wantG_false, Bool.not_true, Bool.not_false, Bool.false_eq_true, if_true, if_false, flat_bool, flat_int, pure_not, pure_neg, ↓wk_tt, ↓wk_ff, false_implies, true_implies, wantG_undef, cells_agg, all2_one, sz23, push_next, push_floor, put_next, put_floor, dead_next, dead_floor, zero23, flat_span, field_lo, field_hi, ld23_eq, ld3_eq, st23_eq, get_push', get_put', ld23_row, ld3_0, ld3_1, st23_row, build_span, build_lo, build_none, Nat.reduceAdd, Nat.reduceLT, Nat.zero_le, exists_eq_left', List.map_cons, fl_fl, fl_self, u2, u3, u4, u6, u7, u8, u9, u10, q1, q2, q4, c2, h45', w10, st3_eq, st3_0 hf2, st3_1 (hfp _), j2, d1', d2']
              exact ⟨hjlt, j1, q3⟩
            · rw [decide_eq_false_iff_not] at d1
              rw [decide_eq_true_eq] at d2
              have d1' : decide (V < q.1) = false := decide_eq_false d1
              have d2' : decide (V > q.2) = true := decide_eq_true d2
              rw [if_neg d1, if_pos d2]
              simp only [wk_seq, wk_block, wk_region, wkl_nil, wkl_cons, wk_cond, wkc_bool, wk_skip, wk_exit, wk_ret, ap_top, ap_seqN, ap_seqE, ap_seqR, ap_blkN, ap_blkE, ap_blkR, ap_invN, ap_invE, ap_invR, want_none, sop, wkr_some, wkr_map, wko_some, ev_tmp, ev_const, ev_func, tmps0, Tr.get_put, Tr.get_set, get_leaf, callS, evs, List.map_cons, List.map_nil, ↓reduceIte, Option.some.injEq, Nat.reduceEqDiff, bin_lss, bin_leq, bin_gtr, bin_geq, bin_eql, bin_neq, bin_add, bin_sub, bin_mul, max2, min2, resS, resV, decide_eq_true_eq, decide_eq_false_iff_not, beq_iff_eq, true_and, and_true, or_true, true_or, exists_eq_left', Option.map_some, Option.map_none, want_some, Option.bind_some, reduceCtorEq, List.nil_append, List.append_nil, List.cons_append, Value.int.injEq, wantD_some, List.getElem?_toArray, List.getElem?_cons_succ, List.getElem?_cons_zero, decide_true, decide_false, beq_self_eq_true, wantG_true, wantG_false, Bool.not_true, Bool.not_false, Bool.false_eq_true, if_true, if_false, flat_bool, flat_int, pure_not, pure_neg, ↓wk_tt, ↓wk_ff, false_implies, true_implies, wantG_undef, cells_agg, all2_one, sz23, push_next, push_floor, put_next, put_floor, dead_next, dead_floor, zero23, flat_span, field_lo, field_hi, ld23_eq, ld3_eq, st23_eq, get_push', get_put', ld23_row, ld3_0, ld3_1, st23_row, build_span, build_lo, build_none, Nat.reduceAdd, Nat.reduceLT, Nat.zero_le, exists_eq_left', List.map_cons, fl_fl, fl_self, u2, u3, u4, u6, u7, u8, u9, u10, q1, q2, q4, c2, h45', w10, st3_eq, st3_0 hf2, st3_1 hf2, j2, d1', d2']
              exact ⟨hjlt, j1, q3⟩
            · rw [decide_eq_true_eq] at d1
              rw [decide_eq_false_iff_not] at d2
              have d1' : decide (V < q.1) = true := decide_eq_true d1
              have d2' : decide (V > q.2) = false := decide_eq_false d2
              rw [if_pos d1, if_neg d2]
              simp only [wk_seq, wk_block, wk_region, wkl_nil, wkl_cons, wk_cond, wkc_bool, wk_skip, wk_exit, wk_ret, ap_top, ap_seqN, ap_seqE, ap_seqR, ap_blkN, ap_blkE, ap_blkR, ap_invN, ap_invE, ap_invR, want_none, sop, wkr_some, wkr_map, wko_some, ev_tmp, ev_const, ev_func, tmps0, Tr.get_put, Tr.get_set, get_leaf, callS, evs, List.map_cons, List.map_nil, ↓reduceIte, Option.some.injEq, Nat.reduceEqDiff, bin_lss, bin_leq, bin_gtr, bin_geq, bin_eql, bin_neq, bin_add, bin_sub, bin_mul, max2, min2, resS, resV, decide_eq_true_eq, decide_eq_false_iff_not, beq_iff_eq, true_and, and_true, or_true, true_or, exists_eq_left', Option.map_some, Option.map_none, want_some, Option.bind_some, reduceCtorEq, List.nil_append, List.append_nil, List.cons_append, Value.int.injEq, wantD_some, List.getElem?_toArray, List.getElem?_cons_succ, List.getElem?_cons_zero, decide_true, decide_false, beq_self_eq_true, wantG_true, wantG_false, Bool.not_true, Bool.not_false, Bool.false_eq_true, if_true, if_false, flat_bool, flat_int, pure_not, pure_neg, ↓wk_tt, ↓wk_ff, false_implies, true_implies, wantG_undef, cells_agg, all2_one, sz23, push_next, push_floor, put_next, put_floor, dead_next, dead_floor, zero23, flat_span, field_lo, field_hi, ld23_eq, ld3_eq, st23_eq, get_push', get_put', ld23_row, ld3_0, ld3_1, st23_row, build_span, build_lo, build_none, Nat.reduceAdd, Nat.reduceLT, Nat.zero_le, exists_eq_left', List.map_cons, fl_fl, fl_self, u2, u3, u4, u6, u7, u8, u9, u10, q1, q2, q4, c2, h45', w10, st3_eq, st3_0 hf2, st3_1 (hfp _), j2, d1', d2']
              exact ⟨hjlt, j1, q3⟩
            · rw [decide_eq_true_eq] at d1 d2
              have d1' : decide (V < q.1) = true := decide_eq_true d1
              have d2' : decide (V > q.2) = true := decide_eq_true d2
              rw [if_pos d1, if_pos d2]
              simp only [wk_seq, wk_block, wk_region, wkl_nil, wkl_cons, wk_cond, wkc_bool, wk_skip, wk_exit, wk_ret, ap_top, ap_seqN, ap_seqE, ap_seqR, ap_blkN, ap_blkE, ap_blkR, ap_invN, ap_invE, ap_invR, want_none, sop, wkr_some, wkr_map, wko_some, ev_tmp, ev_const, ev_func, tmps0, Tr.get_put, Tr.get_set, get_leaf, callS, evs, List.map_cons, List.map_nil, ↓reduceIte, Option.some.injEq, Nat.reduceEqDiff, bin_lss, bin_leq, bin_gtr, bin_geq, bin_eql, bin_neq, bin_add, bin_sub, bin_mul, max2, min2, resS, resV, decide_eq_true_eq, decide_eq_false_iff_not, beq_iff_eq, true_and, and_true, or_true, true_or, exists_eq_left', Option.map_some, Option.map_none, want_some, Option.bind_some, reduceCtorEq, List.nil_append, List.append_nil, List.cons_append, Value.int.injEq, wantD_some, List.getElem?_toArray, List.getElem?_cons_succ, List.getElem?_cons_zero, decide_true, decide_false, beq_self_eq_true, wantG_true, wantG_false, Bool.not_true, Bool.not_false, Bool.false_eq_true, if_true, if_false, flat_bool, flat_int, pure_not, pure_neg, ↓wk_tt, ↓wk_ff, false_implies, true_implies, wantG_undef, cells_agg, all2_one, sz23, push_next, push_floor, put_next, put_floor, dead_next, dead_floor, zero23, flat_span, field_lo, field_hi, ld23_eq, ld3_eq, st23_eq, get_push', get_put', ld23_row, ld3_0, ld3_1, st23_row, build_span, build_lo, build_none, Nat.reduceAdd, Nat.reduceLT, Nat.zero_le, exists_eq_left', List.map_cons, fl_fl, fl_self, u2, u3, u4, u6, u7, u8, u9, u10, q1, q2, q4, c2, h45', w10, st3_eq, st3_0 hf2, st3_1 (hfp _), j2, d1', d2']
              exact ⟨hjlt, j1, q3⟩
        · have c2 : decide (b1 + (j : Int) ≤ b2) = false := by simp; omega
          have hjl : j = (upto b1 b2).length := by rw [upto_len]; omega
          rw [hjl, List.take_length] at q4 u8
          simp only [wk_seq, wk_block, wk_region, wkl_nil, wkl_cons, wk_cond, wkc_bool, wk_skip, wk_exit, wk_ret, ap_top, ap_seqN, ap_seqE, ap_seqR, ap_blkN, ap_blkE, ap_blkR, ap_invN, ap_invE, ap_invR, want_none, sop, wkr_some, wkr_map, wko_some, ev_tmp, ev_const, ev_func, tmps0, Tr.get_put, Tr.get_set, get_leaf, callS, evs, List.map_cons, List.map_nil, ↓reduceIte, Option.some.injEq, Nat.reduceEqDiff, bin_lss, bin_leq, bin_gtr, bin_geq, bin_eql, bin_neq, bin_add, bin_sub, bin_mul, max2, min2, resS, resV, decide_eq_true_eq, decide_eq_false_iff_not, beq_iff_eq, true_and, and_true, or_true, true_or, exists_eq_left', Option.map_some, Option.map_none, want_some, Option.bind_some, reduceCtorEq, List.nil_append, List.append_nil, List.cons_append, Value.int.injEq, wantD_some, List.getElem?_toArray, List.getElem?_cons_succ, List.getElem?_cons_zero, decide_true, decide_false, beq_self_eq_true, wantG_true, wantG_false, Bool.not_true, Bool.not_false, Bool.false_eq_true, if_true, if_false, flat_bool, flat_int, pure_not, pure_neg, ↓wk_tt, ↓wk_ff, false_implies, true_implies, wantG_undef, cells_agg, all2_one, sz23, push_next, push_floor, put_next, put_floor, dead_next, dead_floor, zero23, flat_span, field_lo, field_hi, ld23_eq, ld3_eq, st23_eq, get_push', get_put', ld23_row, ld3_0, ld3_1, st23_row, build_span, build_lo, build_none, Nat.reduceAdd, Nat.reduceLT, Nat.zero_le, exists_eq_left', List.map_cons, fl_fl, fl_self, u2, u3, u4, u6, u7, u8, u9, u10, q1, q2, q3, q4, c2, w9, hst, j1, j2]
          exact hlt
    · have c1 : decide (a1 + (i : Int) ≤ a2) = false := by simp; omega
      have hil : i = (upto a1 a2).length := by rw [upto_len]; omega
      rw [hil, List.take_length] at hL
      rw [hL]
      by_cases hL0 : L = []
      · subst hL0
        have u8' : T1.get 8 = .bool true := t8
        have e1 : (chain (1, 0) ([] : List Int)) = (1, 0) := rfl
        have n3 : (3 < h1.next) = True := by simp; omega
        simp only [wk_seq, wk_block, wk_region, wkl_nil, wkl_cons, wk_cond, wkc_bool, wk_skip, wk_exit, wk_ret, ap_top, ap_seqN, ap_seqE, ap_seqR, ap_blkN, ap_blkE, ap_blkR, ap_invN, ap_invE, ap_invR, want_none, sop, wkr_some, wkr_map, wko_some, ev_tmp, ev_const, ev_func, tmps0, Tr.get_put, Tr.get_set, get_leaf, callS, evs, List.map_cons, List.map_nil, ↓reduceIte, Option.some.injEq, Nat.reduceEqDiff, bin_lss, bin_leq, bin_gtr, bin_geq, bin_eql, bin_neq, bin_add, bin_sub, bin_mul, max2, min2, resS, resV, decide_eq_true_eq, decide_eq_false_iff_not, beq_iff_eq, true_and, and_true, or_true, true_or, exists_eq_left', Option.map_some, Option.map_none, want_some, Option.bind_some, reduceCtorEq, List.nil_append, List.append_nil, List.cons_append, Value.int.injEq, wantD_some, List.getElem?_toArray, List.getElem?_cons_succ, List.getElem?_cons_zero, decide_true, decide_false, beq_self_eq_true, wantG_true, wantG_false, Bool.not_true, Bool.not_false, Bool.false_eq_true, if_true, if_false, flat_bool, flat_int, pure_not, pure_neg, ↓wk_tt, ↓wk_ff, false_implies, true_implies, wantG_undef, cells_agg, all2_one, sz23, push_next, push_floor, put_next, put_floor, dead_next, dead_floor, zero23, flat_span, field_lo, field_hi, ld23_eq, ld3_eq, st23_eq, get_push', get_put', ld23_row, ld3_0, ld3_1, st23_row, build_span, build_lo, build_none, Nat.reduceAdd, Nat.reduceLT, Nat.zero_le, exists_eq_left', List.map_cons, fl_fl, fl_self, hr, t2, t3, t4, t6, t7, u8', t9, g1, g2, g3, g4, c1, i1, i2, n3, e1]
      · have e8 : L.isEmpty = false := by cases L <;> simp_all
        rw [e8] at t8
        have n3 : (3 < h1.next) = True := by simp; omega
        simp only [wk_seq, wk_block, wk_region, wkl_nil, wkl_cons, wk_cond, wkc_bool, wk_skip, wk_exit, wk_ret, ap_top, ap_seqN, ap_seqE, ap_seqR, ap_blkN, ap_blkE, ap_blkR, ap_invN, ap_invE, ap_invR, want_none, sop, wkr_some, wkr_map, wko_some, ev_tmp, ev_const, ev_func, tmps0, Tr.get_put, Tr.get_set, get_leaf, callS, evs, List.map_cons, List.map_nil, ↓reduceIte, Option.some.injEq, Nat.reduceEqDiff, bin_lss, bin_leq, bin_gtr, bin_geq, bin_eql, bin_neq, bin_add, bin_sub, bin_mul, max2, min2, resS, resV, decide_eq_true_eq, decide_eq_false_iff_not, beq_iff_eq, true_and, and_true, or_true, true_or, exists_eq_left', Option.map_some, Option.map_none, want_some, Option.bind_some, reduceCtorEq, List.nil_append, List.append_nil, List.cons_append, Value.int.injEq, wantD_some, List.getElem?_toArray, List.getElem?_cons_succ, List.getElem?_cons_zero, decide_true, decide_false, beq_self_eq_true, wantG_true, wantG_false, Bool.not_true, Bool.not_false, Bool.false_eq_true, if_true, if_false, flat_bool, flat_int, pure_not, pure_neg, ↓wk_tt, ↓wk_ff, false_implies, true_implies, wantG_undef, cells_agg, all2_one, sz23, push_next, push_floor, put_next, put_floor, dead_next, dead_floor, zero23, flat_span, field_lo, field_hi, ld23_eq, ld3_eq, st23_eq, get_push', get_put', ld23_row, ld3_0, ld3_1, st23_row, build_span, build_lo, build_none, Nat.reduceAdd, Nat.reduceLT, Nat.zero_le, exists_eq_left', List.map_cons, fl_fl, fl_self, hr, t2, t3, t4, t6, t7, t8, t9, g1, g2, g3, g4, c1, i1, i2, n3]
end
end Go.Proofs.YtdnnjkneablfiaaGreatDoor
