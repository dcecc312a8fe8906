/- The least span in which an operation's results lie: the program's, by the shadow reading. -/
import Derived.Test.YtdnnjkneablfiaaGreatDoorSxSp
namespace Go.Proofs.YtdnnjkneablfiaaGreatDoor
open Go Go.Sx
set_option maxRecDepth 100000
set_option linter.unusedSimpArgs false
set_option linter.unusedVariables false

theorem by3 : byOf Tryz.prog 3 = some 8 := by kernel_rfl
theorem zero3 : zeroOf Tryz.prog 3 = some (.int .i64 0) := by kernel_rfl
def ints (l : List Int) : List Value := l.map (.int .i64 ·)
theorem ints_get (l : List Int) (i : Nat) : (ints l)[i]? = (l[i]?).map (.int .i64 ·) := by simp [ints]
theorem ints_len (l : List Int) : (ints l).length = l.length := by simp [ints]
theorem ints_one (l : List Int) : (ints l).all one = true := by simp [ints, one]

/-- A row of numbers and the slice of all of it. -/
theorem row_ints {h : SHeap} {id c : Nat} {l : List Int} {ty : TypeId} {g ro : Bool} (hg : h.get id = .row (ints l) ty g ro) : IntsAt h (.slice (some ⟨id, 0, none⟩) l.length c) l :=
  ⟨_, _, rfl, fun b hb => (by cases hb; rfl), fun k x hk => ⟨id, 0, _, _, _, _, rfl, hg, by rw [Nat.zero_add, ints_get, hk]; rfl⟩⟩

theorem two_build {h : SHeap} {a b : Int} : buildSliceS Tryz.prog h 34 2 [(0, .int .i64 a), (1, .int .i64 b)] = some (.slice (some ⟨h.next, 0, none⟩) 2 2, h.push (.row [.int .i64 a, .int .i64 b] 3 false false)) := by
  have e5 : (Value.int .i64 0).cells = #[.int .i64 0] := rfl
  have e6 : (Value.int .i64 a).cells = #[.int .i64 a] := rfl
  have e7 : (Value.int .i64 b).cells = #[.int .i64 b] := rfl
  simp [buildSliceS, Tryz.underlying34, sz3, zero3, flat, flat1, e5, e6, e7, fillS, zeros, lay]

theorem len34 {h : SHeap} {a : Option Addr} {n c : Nat} : lenS Tryz.prog h 34 (.slice a n c) = some (.int .i64 n) := by
  simp [lenS, Tryz.underlying34]
/-- Others appended to two numbers. -/
theorem app2 {h : SHeap} {k : Nat} {a b : Int} {v : Value} {os : List Int} (hk : h.get k = .row [.int .i64 a, .int .i64 b] 3 false false) (hv : (v = .slice none 0 0 ∧ os = []) ∨ ∃ id, v = .slice (some ⟨id, 0, none⟩) os.length os.length ∧ h.get id = .row (ints os) 3 false false) (hl : os.length < 1000) (hkn : k < h.next) :
    ∃ id c h', appendS Tryz.prog h 34 (.slice (some ⟨k, 0, none⟩) 2 2) v = some (.slice (some ⟨id, 0, none⟩) ([a, b] ++ os).length c, h') ∧ h'.get id = .row (ints ([a, b] ++ os)) 3 (decide (os ≠ [])) false ∧ (id = k ∨ id = h.next) ∧ h.next ≤ h'.next ∧ h'.floor = h.floor ∧ (∀ i, i < h.next → h'.get i = h.get i) ∧ id < h'.next := by
  have hz : (Value.int .i64 0).cells.size = 1 := rfl
  have hnu : (2 : Nat) ≠ unk := by unfold unk; omega
  rcases hv with ⟨rfl, rfl⟩ | ⟨id, rfl, hid⟩
  · refine ⟨k, 2, h, ?_, hk, .inl rfl, Nat.le_refl _, rfl, fun _ _ => rfl, hkn⟩
    simp [appendS, Tryz.underlying34, sz3, by3, zero3, hz, srcCells, hnu]
  · by_cases h0 : os = []
    · subst h0
      refine ⟨k, 2, h, ?_, hk, .inl rfl, Nat.le_refl _, rfl, fun _ _ => rfl, hkn⟩
      simp [appendS, Tryz.underlying34, sz3, by3, zero3, hz, srcCells, hnu]
    · have hpos : 0 < os.length := List.length_pos_iff.2 h0
      have hsrc : srcCells h 1 os.length (.slice (some ⟨id, 0, none⟩) os.length os.length) = some (ints os) := by
        have : os.length ≠ 0 := by omega
        simp only [srcCells, this, if_false, hid, cut, List.drop_zero, Nat.mul_one]
        rw [if_pos (by rw [List.length_take, ints_len]; omega), List.take_of_length_le (by rw [ints_len]; omega)]
      have hold : srcCells h 1 2 (.slice (some ⟨k, 0, none⟩) 2 2) = some [.int .i64 a, .int .i64 b] := by
        simp [srcCells, hk, cut]
      refine ⟨h.next, unk, h.push (.row ([.int .i64 a, .int .i64 b] ++ ints os) 3 true false), ?_, ?_, .inr rfl, by simp [SHeap.push], rfl, fun i hi => get_push_old hi, by simp [SHeap.push]⟩
      · have e1 : ¬ (2 + os.length ≤ 2) := by omega
        have e2 : (2 + os.length) * 8 ≤ 140737488355328 := by omega
        have e3 : 2 * 8 ≤ 140737488355328 := by omega
        have e4 : 2 + os.length ≤ 140737488355328 := by omega
        have e5 : 2 ≤ 140737488355328 := by omega
        have e6 : os.length + 1 + 1 = 2 + os.length := by omega
        simp only [appendS, Tryz.underlying34, sz3, by3, zero3, hz, hsrc, ints_one, hnu, e1, e2, e3, e4, e5, hold, decide_true, Bool.and_self, beq_self_eq_true, Nat.zero_lt_one, Nat.le_refl, if_true, if_false, List.length_append, List.length_cons, List.length_nil, Nat.zero_add, Nat.reduceAdd]
      · rw [get_push_new]
        simp [ints, h0]

/-- What one more number of the second span makes of the span. -/
def stepY (F : Int → Int → Int) (x B1 B2 : Int) (o : Int × Int) (y : Int) : Int × Int :=
  if (decide (y ≥ B1) && decide (y ≤ B2)) = true then joinN o.1 o.2 (clampN (F x y)) (clampN (F x y)) else o
def foldY (F : Int → Int → Int) (x B1 B2 : Int) (o : Int × Int) (ys : List Int) : Int × Int := ys.foldl (stepY F x B1 B2) o
def foldX (F : Int → Int → Int) (B1 B2 : Int) (ys : List Int) (o : Int × Int) (xs : List Int) : Int × Int := xs.foldl (fun o x => foldY F x B1 B2 o ys) o
theorem foldY_take {F : Int → Int → Int} {x B1 B2 : Int} {o : Int × Int} {ys : List Int} {k : Nat} {y : Int} (hk : ys[k]? = some y) : foldY F x B1 B2 o (ys.take (k + 1)) = stepY F x B1 B2 (foldY F x B1 B2 o (ys.take k)) y := by
  unfold foldY
  rw [List.take_add_one, hk, List.foldl_append]
  rfl
theorem foldX_take {F : Int → Int → Int} {B1 B2 : Int} {o : Int × Int} {ys xs : List Int} {k : Nat} {x : Int} (hk : xs[k]? = some x) : foldX F B1 B2 ys o (xs.take (k + 1)) = foldY F x B1 B2 (foldX F B1 B2 ys o (xs.take k)) ys := by
  unfold foldX
  rw [List.take_add_one, hk, List.foldl_append]
  rfl
def ofN (F : Int → Int → Int) (os : List Int) (a1 a2 b1 b2 : Int) : Int × Int :=
  if noneB a1 a2 = true ∨ noneB b1 b2 = true then (1, 0) else foldX F (clampN b1) (clampN b2) ([clampN b1, clampN b2] ++ os) (1, 0) [clampN a1, clampN a2]

theorem clampN_range (x : Int) : -1073741824 ≤ clampN x ∧ clampN x ≤ 1073741824 := by unfold clampN; (repeat' split) <;> omega

section
variable {call : SCall} {n : Nat} {h : SHeap}
set_option maxHeartbeats 8000000 in
theorem of_walk (hsn : SnxOK call) (hN : 10 < n) (h41 : ∀ a b h, call 41 [spanV a b] h = some (.bool (noneB a b), h)) (h42 : ∀ h, call 42 [] h = some (spanV 1 0, h)) (h79 : ∀ x h, call 79 [.int .i64 x] h = some (.int .i64 (clampN x), h))
    (h17 : ∀ a b c d h, call 17 [spanV a b, spanV c d] h = some (spanV (joinN a b c d).1 (joinN a b c d).2, h)) {fid : Nat} {F : Int → Int → Int} (hF : ∀ x y h, -1073741824 ≤ x ∧ x ≤ 1073741824 → -1073741824 ≤ y ∧ y ≤ 1073741824 → call fid [.int .i64 x, .int .i64 y] h = some (.int .i64 (F x y), h))
    {a1 a2 b1 b2 : Int} {os : List Int} {vo : Value} (hos : ∀ x ∈ os, -1073741824 ≤ x ∧ x ≤ 1073741824) (hl : os.length < 6) (hnx : h.next = 5) (hfl : h.floor = 0)
    (hvo : (vo = .slice none 0 0 ∧ os = []) ∨ (vo = .slice (some ⟨4, 0, none⟩) os.length os.length ∧ h.get 4 = .row (ints os) 3 false false)) :
    ∃ h', bodyF Tryz.prog call n 29 [spanV a1 a2, spanV b1 b2, .func (.func fid) #[] #[], vo] h = some (spanV (ofN F os a1 a2 b1 b2).1 (ofN F os a1 a2 b1 b2).2, h') ∧ (h'.floor = 0 ∧ 5 ≤ h'.next ∧ ∀ i, i < 5 → h'.get i = h.get i) := by
  refine call_ex (R := fun h' => h'.floor = 0 ∧ 5 ≤ h'.next ∧ ∀ i, i < 5 → h'.get i = h.get i) Tryz.func29 rfl (by simp [Tryz.f29]) ?_
  have hr : Tryz.f29.results.toList = [.cell 8 23] := rfl
  have hget : ∀ i, i < 5 → i ≠ 5 ∧ i ≠ 6 ∧ i ≠ 7 := fun i hi => by omega
  unfold ofN
  by_cases hnone : noneB a1 a2 = true ∨ noneB b1 b2 = true
  · rw [if_pos hnone]
    have fin : ∀ (o1 o2 o3 o4 : SObj), ∀ i, i < 5 → (if i = 7 then o1 else if i = 7 then o2 else if i = 6 then o3 else if i = 5 then o4 else h.get i) = h.get i := fun o1 o2 o3 o4 i hi => by
      rw [if_neg (by omega), if_neg (by omega), if_neg (by omega), if_neg (by omega)]
    cases hab : noneB a1 a2
    · have hcd : noneB b1 b2 = true := by rcases hnone with h | h <;> simp_all
      simp only [wk_seq, wk_block, wk_region, wkl_nil, wkl_cons, wk_cond, wkc_bool, wk_skip, wk_exit, wk_ret, ap_top, ap_seqN, ap_seqE, ap_seqR, ap_blkN, ap_blkE, ap_blkR, ap_invN, ap_invE, ap_invR, want_none, sop, wkr_some, wkr_map, wko_some, ev_tmp, ev_const, ev_func, tmps0, Tr.get_put, Tr.get_set, get_leaf, callS, evs, List.map_cons, List.map_nil, ↓reduceIte, Option.some.injEq, Nat.reduceEqDiff, bin_lss, bin_leq, bin_gtr, bin_geq, bin_eql, bin_neq, bin_add, bin_sub, bin_mul, max2, min2, resS, resV, decide_eq_true_eq, decide_eq_false_iff_not, beq_iff_eq, true_and, and_true, or_true, true_or, exists_eq_left', Option.map_some, Option.map_none, want_some, Option.bind_some, reduceCtorEq, List.nil_append, List.append_nil, List.cons_append, Value.int.injEq, wantD_some, List.getElem?_toArray, List.getElem?_cons_succ, List.getElem?_cons_zero, decide_true, decide_false, beq_self_eq_true, wantG_true, wantG_false, Bool.not_true, Bool.not_false, Bool.false_eq_true, if_true, if_false, flat_bool, flat_int, pure_not, pure_neg, ↓wk_tt, ↓wk_ff, false_implies, true_implies, wantG_undef, cells_agg, all2_one, sz23, push_next, push_floor, put_next, put_floor, dead_next, dead_floor, zero23, flat_span, field_lo, field_hi, ld23_eq, ld3_eq, st23_eq, get_push', get_put', ld23_row, ld3_0, ld3_1, st23_row, build_span, build_lo, build_none, Nat.reduceAdd, Nat.reduceLT, Nat.zero_le, exists_eq_left', List.map_cons, fl_fl, fl_self, hr, hnx, hfl, h41, h42, hab, hcd, Nat.reduceLeDiff]
      exact fin _ _ _ _
    · simp only [wk_seq, wk_block, wk_region, wkl_nil, wkl_cons, wk_cond, wkc_bool, wk_skip, wk_exit, wk_ret, ap_top, ap_seqN, ap_seqE, ap_seqR, ap_blkN, ap_blkE, ap_blkR, ap_invN, ap_invE, ap_invR, want_none, sop, wkr_some, wkr_map, wko_some, ev_tmp, ev_const, ev_func, tmps0, Tr.get_put, Tr.get_set, get_leaf, callS, evs, List.map_cons, List.map_nil, ↓reduceIte, Option.some.injEq, Nat.reduceEqDiff, bin_lss, bin_leq, bin_gtr, bin_geq, bin_eql, bin_neq, bin_add, bin_sub, bin_mul, max2, min2, resS, resV, decide_eq_true_eq, decide_eq_false_iff_not, beq_iff_eq, true_and, and_true, or_true, true_or, exists_eq_left', Option.map_some, Option.map_none, want_some, Option.bind_some, reduceCtorEq, List.nil_append, List.append_nil, List.cons_append, Value.int.injEq, wantD_some, List.getElem?_toArray, List.getElem?_cons_succ, List.getElem?_cons_zero, decide_true, decide_false, beq_self_eq_true, wantG_true, wantG_false, Bool.not_true, Bool.not_false, Bool.false_eq_true, if_true, if_false, flat_bool, flat_int, pure_not, pure_neg, ↓wk_tt, ↓wk_ff, false_implies, true_implies, wantG_undef, cells_agg, all2_one, sz23, push_next, push_floor, put_next, put_floor, dead_next, dead_floor, zero23, flat_span, field_lo, field_hi, ld23_eq, ld3_eq, st23_eq, get_push', get_put', ld23_row, ld3_0, ld3_1, st23_row, build_span, build_lo, build_none, Nat.reduceAdd, Nat.reduceLT, Nat.zero_le, exists_eq_left', List.map_cons, fl_fl, fl_self, hr, hnx, hfl, h41, h42, hab, Nat.reduceLeDiff]
      exact fin _ _ _ _
  · rw [if_neg hnone]
    have hab : noneB a1 a2 = false := by cases h : noneB a1 a2 <;> simp_all
    have hcd : noneB b1 b2 = false := by cases h : noneB b1 b2 <;> simp_all
    simp only [wk_seq, wk_block, wk_region, wkl_nil, wkl_cons, wk_cond, wkc_bool, wk_skip, wk_exit, wk_ret, ap_top, ap_seqN, ap_seqE, ap_seqR, ap_blkN, ap_blkE, ap_blkR, ap_invN, ap_invE, ap_invR, want_none, sop, wkr_some, wkr_map, wko_some, ev_tmp, ev_const, ev_func, tmps0, Tr.get_put, Tr.get_set, get_leaf, callS, evs, List.map_cons, List.map_nil, ↓reduceIte, Option.some.injEq, Nat.reduceEqDiff, bin_lss, bin_leq, bin_gtr, bin_geq, bin_eql, bin_neq, bin_add, bin_sub, bin_mul, max2, min2, resS, resV, decide_eq_true_eq, decide_eq_false_iff_not, beq_iff_eq, true_and, and_true, or_true, true_or, exists_eq_left', Option.map_some, Option.map_none, want_some, Option.bind_some, reduceCtorEq, List.nil_append, List.append_nil, List.cons_append, Value.int.injEq, wantD_some, List.getElem?_toArray, List.getElem?_cons_succ, List.getElem?_cons_zero, decide_true, decide_false, beq_self_eq_true, wantG_true, wantG_false, Bool.not_true, Bool.not_false, Bool.false_eq_true, if_true, if_false, flat_bool, flat_int, pure_not, pure_neg, ↓wk_tt, ↓wk_ff, false_implies, true_implies, wantG_undef, cells_agg, all2_one, sz23, push_next, push_floor, put_next, put_floor, dead_next, dead_floor, zero23, flat_span, field_lo, field_hi, ld23_eq, ld3_eq, st23_eq, get_push', get_put', ld23_row, ld3_0, ld3_1, st23_row, build_span, build_lo, build_none, Nat.reduceAdd, Nat.reduceLT, Nat.zero_le, exists_eq_left', List.map_cons, fl_fl, fl_self, hr, hnx, hfl, h41, h42, hab, hcd, Nat.reduceLeDiff]
    refine WK.flags (fs := [(false, true, []), (false, true, []), (false, true, []), (true, true, [.tmp 22]), (true, true, [.tmp 22]), (false, true, []), (true, true, []), (true, true, [.tmp 22, .tmp 25]), (true, true, [.tmp 22, .tmp 25]), (false, true, []), (true, true, [.tmp 22, .tmp 25, .tmp 29]), (true, true, [.tmp 22, .tmp 25, .tmp 29]), (false, false, []), (false, false, []), (false, false, []), (false, false, [])]) (by kernel_rfl) ?_
    have hfl0 : h.fl 0 = h := by have := fl_self (h := h); rw [hfl] at this; exact this
    iterate 16 (refine WKF.cons (fun v h' hh hs => (sop_snx hsn hs).floor) ?_; simp only [wk_seq, wk_block, wk_region, wkl_nil, wkl_cons, wk_cond, wkc_bool, wk_skip, wk_exit, wk_ret, ap_top, ap_seqN, ap_seqE, ap_seqR, ap_blkN, ap_blkE, ap_blkR, ap_invN, ap_invE, ap_invR, want_none, sop, wkr_some, wkr_map, wko_some, ev_tmp, ev_const, ev_func, tmps0, Tr.get_put, Tr.get_set, get_leaf, callS, evs, List.map_cons, List.map_nil, ↓reduceIte, Option.some.injEq, Nat.reduceEqDiff, bin_lss, bin_leq, bin_gtr, bin_geq, bin_eql, bin_neq, bin_add, bin_sub, bin_mul, max2, min2, resS, resV, decide_eq_true_eq, decide_eq_false_iff_not, beq_iff_eq, true_and, and_true, or_true, true_or, exists_eq_left', Option.map_some, Option.map_none, want_some, Option.bind_some, reduceCtorEq, List.nil_append, List.append_nil, List.cons_append, Value.int.injEq, wantD_some, List.getElem?_toArray, List.getElem?_cons_succ, List.getElem?_cons_zero, decide_true, decide_false, beq_self_eq_true, wantG_true, wantG_false, Bool.not_true, Bool.not_false, Bool.false_eq_true, if_true, if_false, flat_bool, flat_int, pure_not, pure_neg, ↓wk_tt, ↓wk_ff, false_implies, true_implies, wantG_undef, cells_agg, all2_one, sz23, push_next, push_floor, put_next, put_floor, dead_next, dead_floor, zero23, flat_span, field_lo, field_hi, ld23_eq, ld3_eq, st23_eq, get_push', get_put', ld23_row, ld3_0, ld3_1, st23_row, build_span, build_lo, build_none, Nat.reduceAdd, Nat.reduceLT, Nat.zero_le, exists_eq_left', List.map_cons, fl_fl, fl_self, WKFC, clsOf, notMap, wkfr_some, wkf_nil, ahead_ptr, fl_pushE, fl_putE, fl_dead, List.all_nil, hr, hnx, hfl, hfl0, fl_floor, h79, h42, two_build, len34, Nat.reduceLeDiff])
    have rA1 := clampN_range a1
    have rA2 := clampN_range a2
    have rB1 := clampN_range b1
    have rB2 := clampN_range b2
    generalize clampN a1 = A1 at *
    generalize clampN a2 = A2 at *
    generalize clampN b1 = B1 at *
    generalize clampN b2 = B2 at *
    have hys : ∀ y ∈ [B1, B2] ++ os, -1073741824 ≤ y ∧ y ≤ 1073741824 := fun y hy => by
      rcases List.mem_append.1 hy with h | h
      · simp at h; rcases h with rfl | rfl <;> assumption
      · exact hos y h
    have hxs : ∀ x ∈ [A1, A2], -1073741824 ≤ x ∧ x ≤ 1073741824 := fun x hx => by
      simp at hx; rcases hx with rfl | rfl <;> assumption
    have hylen : ([B1, B2] ++ os).length < 8 := by simp; omega
    generalize hY : [B1, B2] ++ os = ys at *
    refine WK.loop (fun k s => s.h.floor = 0 ∧ 10 ≤ s.h.next ∧ (∀ i, i < 5 → s.h.get i = h.get i) ∧ s.h.get 6 = .row [.int .i64 B1, .int .i64 B2] 23 false false ∧ s.h.get 7 = .row [.int .i64 0, .int .i64 0] 23 false false ∧ s.h.get 9 = .row (ints [A1, A2]) 3 false false ∧
      s.h.get 8 = .row [.int .i64 (foldX F B1 B2 ys (1, 0) ([A1, A2].take k)).1, .int .i64 (foldX F B1 B2 ys (1, 0) ([A1, A2].take k)).2] 23 false false ∧
      s.T.get 2 = .func (.func fid) #[] #[] ∧ s.T.get 3 = vo ∧ s.T.get 5 = .pointer (some ⟨6, 0, none⟩) ∧ s.T.get 8 = .pointer (some ⟨7, 0, none⟩) ∧ s.T.get 9 = .pointer (some ⟨8, 0, none⟩) ∧ s.T.get 41 = .slice (some ⟨9, 0, none⟩) 2 2 ∧ s.T.get 42 = .int .i64 2 ∧ s.T.get 43 = .int .i64 k) 2 (by omega) ?_ ?_
    · simp only [wk_seq, wk_block, wk_region, wkl_nil, wkl_cons, wk_cond, wkc_bool, wk_skip, wk_exit, wk_ret, ap_top, ap_seqN, ap_seqE, ap_seqR, ap_blkN, ap_blkE, ap_blkR, ap_invN, ap_invE, ap_invR, want_none, sop, wkr_some, wkr_map, wko_some, ev_tmp, ev_const, ev_func, tmps0, Tr.get_put, Tr.get_set, get_leaf, callS, evs, List.map_cons, List.map_nil, ↓reduceIte, Option.some.injEq, Nat.reduceEqDiff, bin_lss, bin_leq, bin_gtr, bin_geq, bin_eql, bin_neq, bin_add, bin_sub, bin_mul, max2, min2, resS, resV, decide_eq_true_eq, decide_eq_false_iff_not, beq_iff_eq, true_and, and_true, or_true, true_or, exists_eq_left', Option.map_some, Option.map_none, want_some, Option.bind_some, reduceCtorEq, List.nil_append, List.append_nil, List.cons_append, Value.int.injEq, wantD_some, List.getElem?_toArray, List.getElem?_cons_succ, List.getElem?_cons_zero, decide_true, decide_false, beq_self_eq_true, wantG_true, wantG_false, Bool.not_true, Bool.not_false, Bool.false_eq_true, if_true, if_false, flat_bool, flat_int, pure_not, pure_neg, ↓wk_tt, ↓wk_ff, false_implies, true_implies, wantG_undef, cells_agg, all2_one, sz23, push_next, push_floor, put_next, put_floor, dead_next, dead_floor, zero23, flat_span, field_lo, field_hi, ld23_eq, ld3_eq, st23_eq, get_push', get_put', ld23_row, ld3_0, ld3_1, st23_row, build_span, build_lo, build_none, Nat.reduceAdd, Nat.reduceLT, Nat.zero_le, exists_eq_left', List.map_cons, fl_fl, fl_self, hnx, hfl, hfl0]
      refine ⟨Nat.le_refl _, fun i hi => ?_, rfl, rfl, rfl, rfl⟩
      rw [if_neg (by omega), if_neg (by omega), if_neg (by omega), if_neg (by omega), if_neg (by omega), if_neg (by omega), if_neg (by omega), if_neg (by omega)]
    · rintro k ⟨T, h1⟩ hk ⟨i1, i2, i3, g6, g7, g9, g8, t2, t3, t5, t8, t9, t41, t42, t43⟩
      simp only at i1 i2 i3 g6 g7 g9 g8 t2 t3 t5 t8 t9 t41 t42 t43
      generalize ho : foldX F B1 B2 ys (1, 0) ([A1, A2].take k) = o at g8
      by_cases hlt : k < 2
      · have c1 : decide ((k : Int) < 2) = true := by simp; omega
        obtain ⟨x, hx⟩ : ∃ x, [A1, A2][k]? = some x := ⟨_, List.getElem?_eq_getElem (by simpa using hlt)⟩
        have hxr := hxs x (List.mem_of_getElem? hx)
        obtain ⟨p, hp1, hp2⟩ := (row_ints (c := 2) g9).idx Tryz.underlying34 sz3 agg3 hx (kd := .i64)
        have hp1' : idxAddr Tryz.prog 34 (.slice (some ⟨9, 0, none⟩) 2 2) (.int .i64 (k : Int)) = some p := hp1
        have n6 : (6 = h1.next) = False := by simp; omega
        have n8 : (8 = h1.next) = False := by simp; omega
        obtain ⟨id, c, h2, hap, gy, hid, hn2, hf2, hold2, hidn⟩ := app2 (h := h1.push (.row [.int .i64 B1, .int .i64 B2] 3 false false)) (k := h1.next) (a := B1) (b := B2) (v := vo) (os := os) get_push_new (by
          rcases hvo with ⟨rfl, rfl⟩ | ⟨rfl, h4⟩
          · exact .inl ⟨rfl, rfl⟩
          · exact .inr ⟨4, rfl, by rw [get_push_old (by omega), i3 4 (by omega)]; exact h4⟩) (by omega) (by simp [SHeap.push])
        rw [hY] at hap gy
        have hid10 : 10 ≤ id := by
          have : (h1.push (.row [.int .i64 B1, .int .i64 B2] 3 false false)).next = h1.next + 1 := rfl
          rcases hid with e | e <;> omega
        have hn2' : h1.next + 1 ≤ h2.next := hn2
        have old2 : ∀ i, i < h1.next → h2.get i = h1.get i := fun i hi => by rw [hold2 i (by show i < h1.next + 1; omega), get_push_old hi]
        simp only [wk_seq, wk_block, wk_region, wkl_nil, wkl_cons, wk_cond, wkc_bool, wk_skip, wk_exit, wk_ret, ap_top, ap_seqN, ap_seqE, ap_seqR, ap_blkN, ap_blkE, ap_blkR, ap_invN, ap_invE, ap_invR, want_none, sop, wkr_some, wkr_map, wko_some, ev_tmp, ev_const, ev_func, tmps0, Tr.get_put, Tr.get_set, get_leaf, callS, evs, List.map_cons, List.map_nil, ↓reduceIte, Option.some.injEq, Nat.reduceEqDiff, bin_lss, bin_leq, bin_gtr, bin_geq, bin_eql, bin_neq, bin_add, bin_sub, bin_mul, max2, min2, resS, resV, decide_eq_true_eq, decide_eq_false_iff_not, beq_iff_eq, true_and, and_true, or_true, true_or, exists_eq_left', Option.map_some, Option.map_none, want_some, Option.bind_some, reduceCtorEq, List.nil_append, List.append_nil, List.cons_append, Value.int.injEq, wantD_some, List.getElem?_toArray, List.getElem?_cons_succ, List.getElem?_cons_zero, decide_true, decide_false, beq_self_eq_true, wantG_true, wantG_false, Bool.not_true, Bool.not_false, Bool.false_eq_true, if_true, if_false, flat_bool, flat_int, pure_not, pure_neg, ↓wk_tt, ↓wk_ff, false_implies, true_implies, wantG_undef, cells_agg, all2_one, sz23, push_next, push_floor, put_next, put_floor, dead_next, dead_floor, zero23, flat_span, field_lo, field_hi, ld23_eq, ld3_eq, st23_eq, get_push', get_put', ld23_row, ld3_0, ld3_1, st23_row, build_span, build_lo, build_none, Nat.reduceAdd, Nat.reduceLT, Nat.zero_le, exists_eq_left', List.map_cons, fl_fl, fl_self, t2, t3, t5, t8, t9, t41, t42, t43, c1, hp1', hp2, g6, n6, two_build, len34, hap]
        have w4 : IntKind.i64.wrap ((k : Int) + 1) = ((k + 1 : Nat) : Int) := wrap_id (by omega) (by omega)
        refine WK.loop (fun j s => s.h.floor = 0 ∧ h2.next ≤ s.h.next ∧ (∀ i, i < 5 → s.h.get i = h.get i) ∧ s.h.get 6 = .row [.int .i64 B1, .int .i64 B2] 23 false false ∧ s.h.get 7 = .row [.int .i64 0, .int .i64 0] 23 false false ∧ s.h.get 9 = .row (ints [A1, A2]) 3 false false ∧
          s.h.get id = .row (ints ys) 3 (decide (os ≠ [])) false ∧
          s.h.get 8 = .row [.int .i64 (foldY F x B1 B2 o (ys.take j)).1, .int .i64 (foldY F x B1 B2 o (ys.take j)).2] 23 false false ∧
          s.T.get 2 = .func (.func fid) #[] #[] ∧ s.T.get 3 = vo ∧ s.T.get 5 = .pointer (some ⟨6, 0, none⟩) ∧ s.T.get 8 = .pointer (some ⟨7, 0, none⟩) ∧ s.T.get 9 = .pointer (some ⟨8, 0, none⟩) ∧ s.T.get 41 = .slice (some ⟨9, 0, none⟩) 2 2 ∧ s.T.get 42 = .int .i64 2 ∧ s.T.get 43 = .int .i64 k ∧
          s.T.get 11 = .int .i64 x ∧ s.T.get 53 = .slice (some ⟨id, 0, none⟩) ys.length c ∧ s.T.get 54 = .int .i64 (ys.length : Int) ∧ s.T.get 55 = .int .i64 j) ys.length (by omega) ?_ ?_
        · simp only [wk_seq, wk_block, wk_region, wkl_nil, wkl_cons, wk_cond, wkc_bool, wk_skip, wk_exit, wk_ret, ap_top, ap_seqN, ap_seqE, ap_seqR, ap_blkN, ap_blkE, ap_blkR, ap_invN, ap_invE, ap_invR, want_none, sop, wkr_some, wkr_map, wko_some, ev_tmp, ev_const, ev_func, tmps0, Tr.get_put, Tr.get_set, get_leaf, callS, evs, List.map_cons, List.map_nil, ↓reduceIte, Option.some.injEq, Nat.reduceEqDiff, bin_lss, bin_leq, bin_gtr, bin_geq, bin_eql, bin_neq, bin_add, bin_sub, bin_mul, max2, min2, resS, resV, decide_eq_true_eq, decide_eq_false_iff_not, beq_iff_eq, true_and, and_true, or_true, true_or, exists_eq_left', Option.map_some, Option.map_none, want_some, Option.bind_some, reduceCtorEq, List.nil_append, List.append_nil, List.cons_append, Value.int.injEq, wantD_some, List.getElem?_toArray, List.getElem?_cons_succ, List.getElem?_cons_zero, decide_true, decide_false, beq_self_eq_true, wantG_true, wantG_false, Bool.not_true, Bool.not_false, Bool.false_eq_true, if_true, if_false, flat_bool, flat_int, pure_not, pure_neg, ↓wk_tt, ↓wk_ff, false_implies, true_implies, wantG_undef, cells_agg, all2_one, sz23, push_next, push_floor, put_next, put_floor, dead_next, dead_floor, zero23, flat_span, field_lo, field_hi, ld23_eq, ld3_eq, st23_eq, get_push', get_put', ld23_row, ld3_0, ld3_1, st23_row, build_span, build_lo, build_none, Nat.reduceAdd, Nat.reduceLT, Nat.zero_le, exists_eq_left', List.map_cons, fl_fl, fl_self, t2, t3, t5, t8, t9, t41, t42, t43]
          refine ⟨hf2.trans i1, Nat.le_refl _, fun i hi => by rw [old2 i (by omega), i3 i hi], by rw [old2 6 (by omega)]; exact g6, by rw [old2 7 (by omega)]; exact g7, by rw [old2 9 (by omega)]; exact g9, gy, by rw [old2 8 (by omega)]; exact g8, rfl⟩
        · rintro j ⟨T3, h3⟩ hj ⟨j1, j2, j3, f6, f7, f9, fy, f8, u2, u3, u5, u8, u9, u41, u42, u43, u11, u53, u54, u55⟩
          simp only at j1 j2 j3 f6 f7 f9 fy f8 u2 u3 u5 u8 u9 u41 u42 u43 u11 u53 u54 u55
          generalize hq : foldY F x B1 B2 o (ys.take j) = q at f8
          by_cases hjlt : j < ys.length
          · have c2 : decide ((j : Int) < (ys.length : Int)) = true := by simp only [decide_eq_true_eq]; omega
            obtain ⟨y, hy⟩ : ∃ y, ys[j]? = some y := ⟨_, List.getElem?_eq_getElem hjlt⟩
            have hyr := hys y (List.mem_of_getElem? hy)
            have hst := foldY_take (F := F) (x := x) (B1 := B1) (B2 := B2) (o := o) hy
            rw [hq] at hst
            obtain ⟨p2, hp3, hp4⟩ := (row_ints (c := c) fy).idx Tryz.underlying34 sz3 agg3 hy (kd := .i64)
            have hFx := fun hh => hF x y hh hxr hyr
            have w5 : IntKind.i64.wrap ((j : Int) + 1) = ((j + 1 : Nat) : Int) := wrap_id (by omega) (by omega)
            have keep : ∀ (o8 : SObj) i, i ≠ 8 → (h3.put 8 o8).get i = h3.get i := fun o8 i hi => by rw [get_put', if_neg hi]
            cases d1 : decide (y ≥ B1) with
            | false =>
              simp only [wk_seq, wk_block, wk_region, wkl_nil, wkl_cons, wk_cond, wkc_bool, wk_skip, wk_exit, wk_ret, ap_top, ap_seqN, ap_seqE, ap_seqR, ap_blkN, ap_blkE, ap_blkR, ap_invN, ap_invE, ap_invR, want_none, sop, wkr_some, wkr_map, wko_some, ev_tmp, ev_const, ev_func, tmps0, Tr.get_put, Tr.get_set, get_leaf, callS, evs, List.map_cons, List.map_nil, ↓reduceIte, Option.some.injEq, Nat.reduceEqDiff, bin_lss, bin_leq, bin_gtr, bin_geq, bin_eql, bin_neq, bin_add, bin_sub, bin_mul, max2, min2, resS, resV, decide_eq_true_eq, decide_eq_false_iff_not, beq_iff_eq, true_and, and_true, or_true, true_or, exists_eq_left', Option.map_some, Option.map_none, want_some, Option.bind_some, reduceCtorEq, List.nil_append, List.append_nil, List.cons_append, Value.int.injEq, wantD_some, List.getElem?_toArray, List.getElem?_cons_succ, List.getElem?_cons_zero, decide_true, decide_false, beq_self_eq_true, wantG_true, wantG_false, Bool.not_true, Bool.not_false, Bool.false_eq_true, if_true, if_false, flat_bool, flat_int, pure_not, pure_neg, ↓wk_tt, ↓wk_ff, false_implies, true_implies, wantG_undef, cells_agg, all2_one, sz23, push_next, push_floor, put_next, put_floor, dead_next, dead_floor, zero23, flat_span, field_lo, field_hi, ld23_eq, ld3_eq, st23_eq, get_push', get_put', ld23_row, ld3_0, ld3_1, st23_row, build_span, build_lo, build_none, Nat.reduceAdd, Nat.reduceLT, Nat.zero_le, exists_eq_left', List.map_cons, fl_fl, fl_self, u2, u3, u5, u8, u9, u41, u42, u43, u11, u53, u54, u55, c2, hp3, hp4, f6, f8, d1, w5, j1]
              refine ⟨hjlt, j2, j3, f7, f9, fy, ?_⟩
              rw [hst]
              unfold stepY
              rw [d1]
              rfl
            | true =>
              cases d2 : decide (y ≤ B2) with
              | false =>
                simp only [wk_seq, wk_block, wk_region, wkl_nil, wkl_cons, wk_cond, wkc_bool, wk_skip, wk_exit, wk_ret, ap_top, ap_seqN, ap_seqE, ap_seqR, ap_blkN, ap_blkE, ap_blkR, ap_invN, ap_invE, ap_invR, want_none, sop, wkr_some, wkr_map, wko_some, ev_tmp, ev_const, ev_func, tmps0, Tr.get_put, Tr.get_set, get_leaf, callS, evs, List.map_cons, List.map_nil, ↓reduceIte, Option.some.injEq, Nat.reduceEqDiff, bin_lss, bin_leq, bin_gtr, bin_geq, bin_eql, bin_neq, bin_add, bin_sub, bin_mul, max2, min2, resS, resV, decide_eq_true_eq, decide_eq_false_iff_not, beq_iff_eq, true_and, and_true, or_true, true_or, exists_eq_left', Option.map_some, Option.map_none, want_some, Option.bind_some, reduceCtorEq, List.nil_append, List.append_nil, List.cons_append, Value.int.injEq, wantD_some, List.getElem?_toArray, List.getElem?_cons_succ, List.getElem?_cons_zero, decide_true, decide_false, beq_self_eq_true, wantG_true, wantG_false, Bool.not_true, Bool.not_false, Bool.false_eq_true, if_true, if_false, flat_bool, flat_int, pure_not, pure_neg, ↓wk_tt, ↓wk_ff, false_implies, true_implies, wantG_undef, cells_agg, all2_one, sz23, push_next, push_floor, put_next, put_floor, dead_next, dead_floor, zero23, flat_span, field_lo, field_hi, ld23_eq, ld3_eq, st23_eq, get_push', get_put', ld23_row, ld3_0, ld3_1, st23_row, build_span, build_lo, build_none, Nat.reduceAdd, Nat.reduceLT, Nat.zero_le, exists_eq_left', List.map_cons, fl_fl, fl_self, u2, u3, u5, u8, u9, u41, u42, u43, u11, u53, u54, u55, c2, hp3, hp4, f6, f8, d1, d2, w5, j1]
                refine ⟨hjlt, j2, j3, f7, f9, fy, ?_⟩
                rw [hst]
                unfold stepY
                rw [d1, d2]
                rfl
              | true =>
                simp only [wk_seq, wk_block, wk_region, wkl_nil, wkl_cons, wk_cond, wkc_bool, wk_skip, wk_exit, wk_ret, ap_top, ap_seqN, ap_seqE, ap_seqR, ap_blkN, ap_blkE, ap_blkR, ap_invN, ap_invE, ap_invR, want_none, sop, wkr_some, wkr_map, wko_some, ev_tmp, ev_const, ev_func, tmps0, Tr.get_put, Tr.get_set, get_leaf, callS, evs, List.map_cons, List.map_nil, ↓reduceIte, Option.some.injEq, Nat.reduceEqDiff, bin_lss, bin_leq, bin_gtr, bin_geq, bin_eql, bin_neq, bin_add, bin_sub, bin_mul, max2, min2, resS, resV, decide_eq_true_eq, decide_eq_false_iff_not, beq_iff_eq, true_and, and_true, or_true, true_or, exists_eq_left', Option.map_some, Option.map_none, want_some, Option.bind_some, reduceCtorEq, List.nil_append, List.append_nil, List.cons_append, Value.int.injEq, wantD_some, List.getElem?_toArray, List.getElem?_cons_succ, List.getElem?_cons_zero, decide_true, decide_false, beq_self_eq_true, wantG_true, wantG_false, Bool.not_true, Bool.not_false, Bool.false_eq_true, if_true, if_false, flat_bool, flat_int, pure_not, pure_neg, ↓wk_tt, ↓wk_ff, false_implies, true_implies, wantG_undef, cells_agg, all2_one, sz23, push_next, push_floor, put_next, put_floor, dead_next, dead_floor, zero23, flat_span, field_lo, field_hi, ld23_eq, ld3_eq, st23_eq, get_push', get_put', ld23_row, ld3_0, ld3_1, st23_row, build_span, build_lo, build_none, Nat.reduceAdd, Nat.reduceLT, Nat.zero_le, exists_eq_left', List.map_cons, fl_fl, fl_self, u2, u3, u5, u8, u9, u41, u42, u43, u11, u53, u54, u55, c2, hp3, hp4, f6, f8, d1, d2, w5, hFx, h79, h17, j1]
                refine ⟨hjlt, j2, fun i hi => by rw [if_neg (by omega)]; exact j3 i hi, f7, f9, by rw [if_neg (by omega)]; exact fy, ?_⟩
                rw [if_pos (by omega), hst]
                unfold stepY
                rw [d1, d2]
                rfl
          · have c2 : decide ((j : Int) < (ys.length : Int)) = false := by simp only [decide_eq_false_iff_not]; omega
            have hjl : j = ys.length := by omega
            rw [hjl, List.take_length] at hq
            simp only [wk_seq, wk_block, wk_region, wkl_nil, wkl_cons, wk_cond, wkc_bool, wk_skip, wk_exit, wk_ret, ap_top, ap_seqN, ap_seqE, ap_seqR, ap_blkN, ap_blkE, ap_blkR, ap_invN, ap_invE, ap_invR, want_none, sop, wkr_some, wkr_map, wko_some, ev_tmp, ev_const, ev_func, tmps0, Tr.get_put, Tr.get_set, get_leaf, callS, evs, List.map_cons, List.map_nil, ↓reduceIte, Option.some.injEq, Nat.reduceEqDiff, bin_lss, bin_leq, bin_gtr, bin_geq, bin_eql, bin_neq, bin_add, bin_sub, bin_mul, max2, min2, resS, resV, decide_eq_true_eq, decide_eq_false_iff_not, beq_iff_eq, true_and, and_true, or_true, true_or, exists_eq_left', Option.map_some, Option.map_none, want_some, Option.bind_some, reduceCtorEq, List.nil_append, List.append_nil, List.cons_append, Value.int.injEq, wantD_some, List.getElem?_toArray, List.getElem?_cons_succ, List.getElem?_cons_zero, decide_true, decide_false, beq_self_eq_true, wantG_true, wantG_false, Bool.not_true, Bool.not_false, Bool.false_eq_true, if_true, if_false, flat_bool, flat_int, pure_not, pure_neg, ↓wk_tt, ↓wk_ff, false_implies, true_implies, wantG_undef, cells_agg, all2_one, sz23, push_next, push_floor, put_next, put_floor, dead_next, dead_floor, zero23, flat_span, field_lo, field_hi, ld23_eq, ld3_eq, st23_eq, get_push', get_put', ld23_row, ld3_0, ld3_1, st23_row, build_span, build_lo, build_none, Nat.reduceAdd, Nat.reduceLT, Nat.zero_le, exists_eq_left', List.map_cons, fl_fl, fl_self, u2, u3, u5, u8, u9, u41, u42, u43, u11, u53, u54, u55, c2, w4]
            have hst := foldX_take (F := F) (B1 := B1) (B2 := B2) (o := (1, 0)) (ys := ys) hx
            rw [ho, hq] at hst
            refine ⟨by omega, j1, by omega, j3, f6, f7, f9, ?_⟩
            rw [hst]
            exact f8
      · have c1 : decide ((k : Int) < 2) = false := by simp; omega
        have hk2 : k = 2 := by omega
        subst hk2
        have e7 : (7 < h1.next) = True := by simp; omega
        have hY2 : B1 :: B2 :: os = ys := hY
        have ho2 : foldX F B1 B2 ys (1, 0) [A1, A2] = o := ho
        simp only [wk_seq, wk_block, wk_region, wkl_nil, wkl_cons, wk_cond, wkc_bool, wk_skip, wk_exit, wk_ret, ap_top, ap_seqN, ap_seqE, ap_seqR, ap_blkN, ap_blkE, ap_blkR, ap_invN, ap_invE, ap_invR, want_none, sop, wkr_some, wkr_map, wko_some, ev_tmp, ev_const, ev_func, tmps0, Tr.get_put, Tr.get_set, get_leaf, callS, evs, List.map_cons, List.map_nil, ↓reduceIte, Option.some.injEq, Nat.reduceEqDiff, bin_lss, bin_leq, bin_gtr, bin_geq, bin_eql, bin_neq, bin_add, bin_sub, bin_mul, max2, min2, resS, resV, decide_eq_true_eq, decide_eq_false_iff_not, beq_iff_eq, true_and, and_true, or_true, true_or, exists_eq_left', Option.map_some, Option.map_none, want_some, Option.bind_some, reduceCtorEq, List.nil_append, List.append_nil, List.cons_append, Value.int.injEq, wantD_some, List.getElem?_toArray, List.getElem?_cons_succ, List.getElem?_cons_zero, decide_true, decide_false, beq_self_eq_true, wantG_true, wantG_false, Bool.not_true, Bool.not_false, Bool.false_eq_true, if_true, if_false, flat_bool, flat_int, pure_not, pure_neg, ↓wk_tt, ↓wk_ff, false_implies, true_implies, wantG_undef, cells_agg, all2_one, sz23, push_next, push_floor, put_next, put_floor, dead_next, dead_floor, zero23, flat_span, field_lo, field_hi, ld23_eq, ld3_eq, st23_eq, get_push', get_put', ld23_row, ld3_0, ld3_1, st23_row, build_span, build_lo, build_none, Nat.reduceAdd, Nat.reduceLT, Nat.zero_le, exists_eq_left', List.map_cons, fl_fl, fl_self, hr, t2, t3, t5, t8, t9, t41, t42, t43, c1, g8, g7, i1, e7, hY2, ho2]
        exact ⟨by omega, fun i hi => by rw [if_neg (by omega)]; exact i3 i hi⟩
end
end Go.Proofs.YtdnnjkneablfiaaGreatDoor
