/- What the program makes of two spans, layer by layer. -/
import Derived.Test.YtdnnjkneablfiaaGreatDoorSxLay
import Derived.Test.YtdnnjkneablfiaaGreatDoorSxHull
namespace Go.Proofs.YtdnnjkneablfiaaGreatDoor
open Go Go.Sx
set_option maxRecDepth 100000
set_option linter.unusedSimpArgs false
set_option linter.unusedVariables false

noncomputable def D1 : SCall := lay [41, 42, 79, 30, 36, 37, 39, 40, 31, 32, 43, 44, 80, 38, 81, 82, 35, 45] 1 noS 6
noncomputable def D2 : SCall := lay [17, 18, 19, 20, 33] 1 D1 6
noncomputable def D3 : SCall := lay [34, 16] 1 D2 6
noncomputable def D4 : SCall := lay [29] 5 D3 15
noncomputable def D5 : SCall := lay [8, 10, 11, 12, 13, 14, 9] 1 D4 20
noncomputable def D6 : SCall := lay [15, 21, 22] 1 D5 40
theorem D1_ok : CallOK Tryz.prog D1 ∧ SnxOK D1 := lay_ok noS_ok (by decide)
theorem D2_ok : CallOK Tryz.prog D2 ∧ SnxOK D2 := lay_ok D1_ok (by decide)
theorem D3_ok : CallOK Tryz.prog D3 ∧ SnxOK D3 := lay_ok D2_ok (by decide)
theorem D4_ok : CallOK Tryz.prog D4 ∧ SnxOK D4 := lay_ok D3_ok (by decide)
theorem D5_ok : CallOK Tryz.prog D5 ∧ SnxOK D5 := lay_ok D4_ok (by decide)
theorem D6_ok : CallOK Tryz.prog D6 ∧ SnxOK D6 := lay_ok D5_ok (by decide)
theorem snxG {base : SCall} (hb : CallOK Tryz.prog base ∧ SnxOK base) (n : Nat) : SnxOK (callG Tryz.prog base n) := (callG_ok progOK_prog hb.1 hb.2 n).2

theorem ofEx {α : Type} {p : α → Prop} {q : α → Prop} (h : ∃ x, p x ∧ q x) : ∃ x, p x := h.elim fun x hx => ⟨x, hx.1⟩

/-! ### The leaves -/
section
variable {h : SHeap} {a b x y : Int}
theorem d1_41 (a b : Int) (h : SHeap) : D1 41 [spanV a b] h = some (.bool (noneB a b), h) := lay_new rfl rfl rfl rfl rfl (ofEx isNone_walk)
theorem d1_42 (h : SHeap) : D1 42 [] h = some (spanV 1 0, h) := lay_new rfl rfl rfl rfl rfl (ofEx none_walk)
theorem d1_79 (x : Int) (h : SHeap) : D1 79 [.int .i64 x] h = some (.int .i64 (clampN x), h) := lay_new rfl rfl rfl rfl rfl ⟨_, clamp_walk⟩
theorem d1_30 (x y : Int) (h : SHeap) : D1 30 [.int .i64 x, .int .i64 y] h = some (.int .i64 (IntKind.i64.wrap (x + y)), h) := lay_new rfl rfl rfl rfl rfl ⟨_, add_walk⟩
theorem d1_36 (x y : Int) (h : SHeap) : D1 36 [.int .i64 x, .int .i64 y] h = some (.int .i64 (IntKind.i64.wrap (x - y)), h) := lay_new rfl rfl rfl rfl rfl ⟨_, sub_walk⟩
theorem d1_37 (x y : Int) (h : SHeap) : D1 37 [.int .i64 x, .int .i64 y] h = some (.int .i64 (IntKind.i64.wrap (x * y)), h) := lay_new rfl rfl rfl rfl rfl ⟨_, mul_walk⟩
theorem d1_39 (x y : Int) (h : SHeap) : D1 39 [.int .i64 x, .int .i64 y] h = some (.int .i64 (if y < x then y else x), h) := lay_new rfl rfl rfl rfl rfl ⟨_, min_walk⟩
theorem d1_40 (x y : Int) (h : SHeap) : D1 40 [.int .i64 x, .int .i64 y] h = some (.int .i64 (if y > x then y else x), h) := lay_new rfl rfl rfl rfl rfl ⟨_, max_walk⟩
theorem d1_31 (a b : Int) (h : SHeap) : D1 31 [spanV a b] h = some (.bool (noneB a b), h) := lay_new rfl rfl rfl rfl rfl (ofEx rNone_walk)
theorem d1_32 (h : SHeap) : D1 32 [] h = some (spanV 1 0, h) := lay_new rfl rfl rfl rfl rfl (ofEx rnone_walk)
theorem d1_43 (a b : Int) (h : SHeap) : D1 43 [.int .i64 a, .int .i64 b] h = some (.int .i64 (if b < a then b else a), h) := lay_new rfl rfl rfl rfl rfl ⟨_, least_walk⟩
theorem d1_44 (a b : Int) (h : SHeap) : D1 44 [.int .i64 a, .int .i64 b] h = some (.int .i64 (if b > a then b else a), h) := lay_new rfl rfl rfl rfl rfl ⟨_, most_walk⟩
theorem d1_80 (x : Int) (h : SHeap) : D1 80 [.int .i64 x] h = some (.int .i64 (clampN x), h) :=
  lay_new rfl rfl rfl rfl rfl ⟨_, rclamp_walk (fun a b h => (cg_body rfl).trans least_walk) (fun a b h => (cg_body rfl).trans most_walk)⟩
theorem d1_38 (ha : I64 a) (hb : I64 b) (h : SHeap) : D1 38 [.int .i64 a, .int .i64 b] h = some (.int .i64 (divN a b), h) :=
  lay_new rfl rfl rfl rfl rfl ⟨_, tdiv_walk (fun x h => (cg_body rfl).trans clamp_walk) ha hb⟩
theorem d1_35 {kind : Int} (hx : -4611686018427387904 ≤ x ∧ x ≤ 4611686018427387904) (hy : I64 y) (h : SHeap) : D1 35 [.int .i64 kind, .int .i64 x, .int .i64 y] h = some (.int .i64 (oneW kind x y), h) :=
  lay_new rfl rfl rfl rfl rfl ⟨_, one_walk (fun a b h ha hb => (cg_body rfl).trans (rdiv81_walk ha hb)) (fun a b h => (cg_body rfl).trans least_walk) (fun a b h => (cg_body rfl).trans most_walk) hx hy⟩
end

/-! ### Joins, meets, ends -/
section
variable {a b c d x : Int}
theorem d2_17 (a b c d : Int) (h : SHeap) : D2 17 [spanV a b, spanV c d] h = some (spanV (joinN a b c d).1 (joinN a b c d).2, h) :=
  lay_new (lay_none rfl rfl) (lay_none rfl rfl) rfl rfl rfl (ofEx (join_walk (fun a b h => cg_up (d1_41 a b h)) (fun h => cg_up (d1_42 h))))
theorem d2_19 (a b c d : Int) (h : SHeap) : D2 19 [spanV a b, spanV c d] h = some (spanV (meetN a b c d).1 (meetN a b c d).2, h) :=
  lay_new (lay_none rfl rfl) (lay_none rfl rfl) rfl rfl rfl (ofEx (meet_walk (fun a b h => cg_up (d1_41 a b h)) (fun h => cg_up (d1_42 h))))
theorem d2_18 (a b c d : Int) (h : SHeap) : D2 18 [spanV a b, spanV c d] h = some (spanV (joinN a b c d).1 (joinN a b c d).2, h) :=
  lay_new (lay_none rfl rfl) (lay_none rfl rfl) rfl rfl rfl (ofEx (rjoin_walk (snxG D1_ok _) (fun a b h => cg_up (d1_31 a b h)) (fun h => cg_up (d1_32 h)) (fun a b h => cg_up (d1_43 a b h)) (fun a b h => cg_up (d1_44 a b h))))
theorem d2_20 (a b c d : Int) (h : SHeap) : D2 20 [spanV a b, spanV c d] h = some (spanV (meetN a b c d).1 (meetN a b c d).2, h) :=
  lay_new (lay_none rfl rfl) (lay_none rfl rfl) rfl rfl rfl (ofEx (rmeet_walk (snxG D1_ok _) (fun a b h => cg_up (d1_31 a b h)) (fun h => cg_up (d1_32 h)) (fun a b h => cg_up (d1_43 a b h)) (fun a b h => cg_up (d1_44 a b h))))
theorem d2_33 (a b : Int) (h : SHeap) : D2 33 [spanV a b] h = some (spanV (clampN a) (clampN b), h) :=
  lay_new (lay_none rfl rfl) (lay_none rfl rfl) rfl rfl rfl (ofEx (ends_walk (snxG D1_ok _) (fun x h => cg_up (d1_80 x h))))
theorem d3_34 (a b x : Int) (h : SHeap) : D3 34 [spanV a b, .int .i64 x] h = some (spanV (joinN a b (clampN x) (clampN x)).1 (joinN a b (clampN x) (clampN x)).2, h) :=
  lay_new (lay_none (lay_none rfl rfl) rfl) (lay_none (lay_none rfl rfl) rfl) rfl rfl rfl (ofEx (over_walk (snxG D2_ok _) (fun x h => cg_up (lay_up (d1_80 x h))) (fun a b c d h => cg_up (d2_18 a b c d h))))
end

/-! ### The least span of an operation -/
section
variable {a1 a2 b1 b2 : Int} {fid : Nat} {F : Int → Int → Int}
theorem d4_29 (hF : ∀ x y h, -1073741824 ≤ x ∧ x ≤ 1073741824 → -1073741824 ≤ y ∧ y ≤ 1073741824 → D1 fid [.int .i64 x, .int .i64 y] h = some (.int .i64 (F x y), h)) (a1 a2 b1 b2 : Int) (h : SHeap) :
    D4 29 [spanV a1 a2, spanV b1 b2, .func (.func fid) #[] #[], .slice none 0 0] h = some (spanV (ofN F [] a1 a2 b1 b2).1 (ofN F [] a1 a2 b1 b2).2, h) := by
  refine lay_new (lay_none (lay_none (lay_none rfl rfl) rfl) rfl) (lay_none (lay_none (lay_none rfl rfl) rfl) rfl) rfl rfl rfl (ofEx (q := fun h' => h'.floor = 0 ∧ 5 ≤ h'.next ∧ ∀ i, i < 5 → h'.get i = (deadH 5 0).get i) ?_)
  exact of_walk (snxG D3_ok _) (by decide) (fun a b h => cg_up (lay_up (lay_up (d1_41 a b h)))) (fun h => cg_up (lay_up (lay_up (d1_42 h)))) (fun x h => cg_up (lay_up (lay_up (d1_79 x h))))
    (fun a b c d h => cg_up (lay_up (d2_17 a b c d h))) (fun x y h hx hy => cg_up (lay_up (lay_up (hF x y h hx hy)))) (fun x hx => by cases hx) (by simp) rfl rfl (.inl ⟨rfl, rfl⟩)

variable {call : SCall} {n : Nat} {p q : Int}
theorem add2_walk (h29 : ∀ h, call 29 [spanV a1 a2, spanV b1 b2, .func (.func 30) #[] #[], .slice none 0 0] h = some (spanV p q, h)) : ∃ h', bodyF Tryz.prog call n 8 [spanV a1 a2, spanV b1 b2] (deadH 1 0) = some (spanV p q, h') ∧ True := by
  refine call_ex (R := fun _ => True) Tryz.func8 rfl (by simp [Tryz.f8]) ?_
  have hr : Tryz.f8.results.toList = [.cell 4 23] := rfl
  simp only [wk_seq, wk_block, wk_region, wkl_nil, wkl_cons, wk_cond, wkc_bool, wk_skip, wk_exit, wk_ret, ap_top, ap_seqN, ap_seqE, ap_seqR, ap_blkN, ap_blkE, ap_blkR, ap_invN, ap_invE, ap_invR, want_none, sop, wkr_some, wkr_map, wko_some, ev_tmp, ev_const, ev_func, tmps0, Tr.get_put, Tr.get_set, get_leaf, callS, evs, List.map_cons, List.map_nil, ↓reduceIte, Option.some.injEq, Nat.reduceEqDiff, bin_lss, bin_leq, bin_gtr, bin_geq, bin_eql, bin_neq, bin_add, bin_sub, bin_mul, max2, min2, resS, resV, decide_eq_true_eq, decide_eq_false_iff_not, beq_iff_eq, true_and, and_true, or_true, true_or, exists_eq_left', Option.map_some, Option.map_none, want_some, Option.bind_some, reduceCtorEq, List.nil_append, List.append_nil, List.cons_append, Value.int.injEq, wantD_some, List.getElem?_toArray, List.getElem?_cons_succ, List.getElem?_cons_zero, decide_true, decide_false, beq_self_eq_true, wantG_true, wantG_false, Bool.not_true, Bool.not_false, Bool.false_eq_true, if_true, if_false, flat_bool, flat_int, pure_not, pure_neg, ↓wk_tt, ↓wk_ff, false_implies, true_implies, wantG_undef, cells_agg, all2_one, sz23, push_next, push_floor, put_next, put_floor, dead_next, dead_floor, zero23, flat_span, field_lo, field_hi, ld23_eq, ld3_eq, st23_eq, get_push', get_put', ld23_row, ld3_0, ld3_1, st23_row, build_span, build_lo, build_none, Nat.reduceAdd, Nat.reduceLT, Nat.zero_le, exists_eq_left', List.map_cons, fl_fl, fl_self, hr, h29, Nat.reduceLeDiff]
theorem sub2_walk (h29 : ∀ h, call 29 [spanV a1 a2, spanV b1 b2, .func (.func 36) #[] #[], .slice none 0 0] h = some (spanV p q, h)) : ∃ h', bodyF Tryz.prog call n 10 [spanV a1 a2, spanV b1 b2] (deadH 1 0) = some (spanV p q, h') ∧ True := by
  refine call_ex (R := fun _ => True) Tryz.func10 rfl (by simp [Tryz.f10]) ?_
  have hr : Tryz.f10.results.toList = [.cell 4 23] := rfl
  simp only [wk_seq, wk_block, wk_region, wkl_nil, wkl_cons, wk_cond, wkc_bool, wk_skip, wk_exit, wk_ret, ap_top, ap_seqN, ap_seqE, ap_seqR, ap_blkN, ap_blkE, ap_blkR, ap_invN, ap_invE, ap_invR, want_none, sop, wkr_some, wkr_map, wko_some, ev_tmp, ev_const, ev_func, tmps0, Tr.get_put, Tr.get_set, get_leaf, callS, evs, List.map_cons, List.map_nil, ↓reduceIte, Option.some.injEq, Nat.reduceEqDiff, bin_lss, bin_leq, bin_gtr, bin_geq, bin_eql, bin_neq, bin_add, bin_sub, bin_mul, max2, min2, resS, resV, decide_eq_true_eq, decide_eq_false_iff_not, beq_iff_eq, true_and, and_true, or_true, true_or, exists_eq_left', Option.map_some, Option.map_none, want_some, Option.bind_some, reduceCtorEq, List.nil_append, List.append_nil, List.cons_append, Value.int.injEq, wantD_some, List.getElem?_toArray, List.getElem?_cons_succ, List.getElem?_cons_zero, decide_true, decide_false, beq_self_eq_true, wantG_true, wantG_false, Bool.not_true, Bool.not_false, Bool.false_eq_true, if_true, if_false, flat_bool, flat_int, pure_not, pure_neg, ↓wk_tt, ↓wk_ff, false_implies, true_implies, wantG_undef, cells_agg, all2_one, sz23, push_next, push_floor, put_next, put_floor, dead_next, dead_floor, zero23, flat_span, field_lo, field_hi, ld23_eq, ld3_eq, st23_eq, get_push', get_put', ld23_row, ld3_0, ld3_1, st23_row, build_span, build_lo, build_none, Nat.reduceAdd, Nat.reduceLT, Nat.zero_le, exists_eq_left', List.map_cons, fl_fl, fl_self, hr, h29, Nat.reduceLeDiff]
theorem mul2_walk (h29 : ∀ h, call 29 [spanV a1 a2, spanV b1 b2, .func (.func 37) #[] #[], .slice none 0 0] h = some (spanV p q, h)) : ∃ h', bodyF Tryz.prog call n 11 [spanV a1 a2, spanV b1 b2] (deadH 1 0) = some (spanV p q, h') ∧ True := by
  refine call_ex (R := fun _ => True) Tryz.func11 rfl (by simp [Tryz.f11]) ?_
  have hr : Tryz.f11.results.toList = [.cell 4 23] := rfl
  simp only [wk_seq, wk_block, wk_region, wkl_nil, wkl_cons, wk_cond, wkc_bool, wk_skip, wk_exit, wk_ret, ap_top, ap_seqN, ap_seqE, ap_seqR, ap_blkN, ap_blkE, ap_blkR, ap_invN, ap_invE, ap_invR, want_none, sop, wkr_some, wkr_map, wko_some, ev_tmp, ev_const, ev_func, tmps0, Tr.get_put, Tr.get_set, get_leaf, callS, evs, List.map_cons, List.map_nil, ↓reduceIte, Option.some.injEq, Nat.reduceEqDiff, bin_lss, bin_leq, bin_gtr, bin_geq, bin_eql, bin_neq, bin_add, bin_sub, bin_mul, max2, min2, resS, resV, decide_eq_true_eq, decide_eq_false_iff_not, beq_iff_eq, true_and, and_true, or_true, true_or, exists_eq_left', Option.map_some, Option.map_none, want_some, Option.bind_some, reduceCtorEq, List.nil_append, List.append_nil, List.cons_append, Value.int.injEq, wantD_some, List.getElem?_toArray, List.getElem?_cons_succ, List.getElem?_cons_zero, decide_true, decide_false, beq_self_eq_true, wantG_true, wantG_false, Bool.not_true, Bool.not_false, Bool.false_eq_true, if_true, if_false, flat_bool, flat_int, pure_not, pure_neg, ↓wk_tt, ↓wk_ff, false_implies, true_implies, wantG_undef, cells_agg, all2_one, sz23, push_next, push_floor, put_next, put_floor, dead_next, dead_floor, zero23, flat_span, field_lo, field_hi, ld23_eq, ld3_eq, st23_eq, get_push', get_put', ld23_row, ld3_0, ld3_1, st23_row, build_span, build_lo, build_none, Nat.reduceAdd, Nat.reduceLT, Nat.zero_le, exists_eq_left', List.map_cons, fl_fl, fl_self, hr, h29, Nat.reduceLeDiff]
theorem min2_walk (h29 : ∀ h, call 29 [spanV a1 a2, spanV b1 b2, .func (.func 39) #[] #[], .slice none 0 0] h = some (spanV p q, h)) : ∃ h', bodyF Tryz.prog call n 13 [spanV a1 a2, spanV b1 b2] (deadH 1 0) = some (spanV p q, h') ∧ True := by
  refine call_ex (R := fun _ => True) Tryz.func13 rfl (by simp [Tryz.f13]) ?_
  have hr : Tryz.f13.results.toList = [.cell 4 23] := rfl
  simp only [wk_seq, wk_block, wk_region, wkl_nil, wkl_cons, wk_cond, wkc_bool, wk_skip, wk_exit, wk_ret, ap_top, ap_seqN, ap_seqE, ap_seqR, ap_blkN, ap_blkE, ap_blkR, ap_invN, ap_invE, ap_invR, want_none, sop, wkr_some, wkr_map, wko_some, ev_tmp, ev_const, ev_func, tmps0, Tr.get_put, Tr.get_set, get_leaf, callS, evs, List.map_cons, List.map_nil, ↓reduceIte, Option.some.injEq, Nat.reduceEqDiff, bin_lss, bin_leq, bin_gtr, bin_geq, bin_eql, bin_neq, bin_add, bin_sub, bin_mul, max2, min2, resS, resV, decide_eq_true_eq, decide_eq_false_iff_not, beq_iff_eq, true_and, and_true, or_true, true_or, exists_eq_left', Option.map_some, Option.map_none, want_some, Option.bind_some, reduceCtorEq, List.nil_append, List.append_nil, List.cons_append, Value.int.injEq, wantD_some, List.getElem?_toArray, List.getElem?_cons_succ, List.getElem?_cons_zero, decide_true, decide_false, beq_self_eq_true, wantG_true, wantG_false, Bool.not_true, Bool.not_false, Bool.false_eq_true, if_true, if_false, flat_bool, flat_int, pure_not, pure_neg, ↓wk_tt, ↓wk_ff, false_implies, true_implies, wantG_undef, cells_agg, all2_one, sz23, push_next, push_floor, put_next, put_floor, dead_next, dead_floor, zero23, flat_span, field_lo, field_hi, ld23_eq, ld3_eq, st23_eq, get_push', get_put', ld23_row, ld3_0, ld3_1, st23_row, build_span, build_lo, build_none, Nat.reduceAdd, Nat.reduceLT, Nat.zero_le, exists_eq_left', List.map_cons, fl_fl, fl_self, hr, h29, Nat.reduceLeDiff]
theorem max2_walk (h29 : ∀ h, call 29 [spanV a1 a2, spanV b1 b2, .func (.func 40) #[] #[], .slice none 0 0] h = some (spanV p q, h)) : ∃ h', bodyF Tryz.prog call n 14 [spanV a1 a2, spanV b1 b2] (deadH 1 0) = some (spanV p q, h') ∧ True := by
  refine call_ex (R := fun _ => True) Tryz.func14 rfl (by simp [Tryz.f14]) ?_
  have hr : Tryz.f14.results.toList = [.cell 4 23] := rfl
  simp only [wk_seq, wk_block, wk_region, wkl_nil, wkl_cons, wk_cond, wkc_bool, wk_skip, wk_exit, wk_ret, ap_top, ap_seqN, ap_seqE, ap_seqR, ap_blkN, ap_blkE, ap_blkR, ap_invN, ap_invE, ap_invR, want_none, sop, wkr_some, wkr_map, wko_some, ev_tmp, ev_const, ev_func, tmps0, Tr.get_put, Tr.get_set, get_leaf, callS, evs, List.map_cons, List.map_nil, ↓reduceIte, Option.some.injEq, Nat.reduceEqDiff, bin_lss, bin_leq, bin_gtr, bin_geq, bin_eql, bin_neq, bin_add, bin_sub, bin_mul, max2, min2, resS, resV, decide_eq_true_eq, decide_eq_false_iff_not, beq_iff_eq, true_and, and_true, or_true, true_or, exists_eq_left', Option.map_some, Option.map_none, want_some, Option.bind_some, reduceCtorEq, List.nil_append, List.append_nil, List.cons_append, Value.int.injEq, wantD_some, List.getElem?_toArray, List.getElem?_cons_succ, List.getElem?_cons_zero, decide_true, decide_false, beq_self_eq_true, wantG_true, wantG_false, Bool.not_true, Bool.not_false, Bool.false_eq_true, if_true, if_false, flat_bool, flat_int, pure_not, pure_neg, ↓wk_tt, ↓wk_ff, false_implies, true_implies, wantG_undef, cells_agg, all2_one, sz23, push_next, push_floor, put_next, put_floor, dead_next, dead_floor, zero23, flat_span, field_lo, field_hi, ld23_eq, ld3_eq, st23_eq, get_push', get_put', ld23_row, ld3_0, ld3_1, st23_row, build_span, build_lo, build_none, Nat.reduceAdd, Nat.reduceLT, Nat.zero_le, exists_eq_left', List.map_cons, fl_fl, fl_self, hr, h29, Nat.reduceLeDiff]

def minF (x y : Int) : Int := if y < x then y else x
def maxF (x y : Int) : Int := if y > x then y else x
theorem mul_range {x y : Int} (hx : -1073741824 ≤ x ∧ x ≤ 1073741824) (hy : -1073741824 ≤ y ∧ y ≤ 1073741824) : -1152921504606846976 ≤ x * y ∧ x * y ≤ 1152921504606846976 := by
  have h1 : x.natAbs ≤ 1073741824 := by omega
  have h2 : y.natAbs ≤ 1073741824 := by omega
  have h3 := Nat.mul_le_mul h1 h2
  rw [← Int.natAbs_mul] at h3
  omega
theorem D5none (f : FuncId) (h1 : ([41, 42, 79, 30, 36, 37, 39, 40, 31, 32, 43, 44, 80, 38, 81, 82, 35, 45] : List FuncId).contains f = false) (h2 : ([17, 18, 19, 20, 33] : List FuncId).contains f = false) (h3 : ([34, 16] : List FuncId).contains f = false)
    (h4 : ([29] : List FuncId).contains f = false) (args : List Value) (h : SHeap) : D4 f args h = none := lay_none (lay_none (lay_none (lay_none rfl h1) h2) h3) h4
theorem d5_8 (a1 a2 b1 b2 : Int) (h : SHeap) : D5 8 [spanV a1 a2, spanV b1 b2] h = some (spanV (ofN (· + ·) [] a1 a2 b1 b2).1 (ofN (· + ·) [] a1 a2 b1 b2).2, h) :=
  lay_new (D5none 8 rfl rfl rfl rfl _ _) (D5none 8 rfl rfl rfl rfl _ _) rfl rfl rfl (ofEx (add2_walk fun h => cg_up (d4_29 (F := (· + ·)) (fun x y h hx hy => by rw [d1_30, wrap_id (by omega) (by omega)]) _ _ _ _ h)))
theorem d5_10 (a1 a2 b1 b2 : Int) (h : SHeap) : D5 10 [spanV a1 a2, spanV b1 b2] h = some (spanV (ofN (· - ·) [] a1 a2 b1 b2).1 (ofN (· - ·) [] a1 a2 b1 b2).2, h) :=
  lay_new (D5none 10 rfl rfl rfl rfl _ _) (D5none 10 rfl rfl rfl rfl _ _) rfl rfl rfl (ofEx (sub2_walk fun h => cg_up (d4_29 (F := (· - ·)) (fun x y h hx hy => by rw [d1_36, wrap_id (by omega) (by omega)]) _ _ _ _ h)))
theorem d5_11 (a1 a2 b1 b2 : Int) (h : SHeap) : D5 11 [spanV a1 a2, spanV b1 b2] h = some (spanV (ofN (· * ·) [] a1 a2 b1 b2).1 (ofN (· * ·) [] a1 a2 b1 b2).2, h) :=
  lay_new (D5none 11 rfl rfl rfl rfl _ _) (D5none 11 rfl rfl rfl rfl _ _) rfl rfl rfl (ofEx (mul2_walk fun h => cg_up (d4_29 (F := (· * ·)) (fun x y h hx hy => by
    have := mul_range hx hy
    rw [d1_37, wrap_id (by omega) (by omega)]) _ _ _ _ h)))
theorem d5_13 (a1 a2 b1 b2 : Int) (h : SHeap) : D5 13 [spanV a1 a2, spanV b1 b2] h = some (spanV (ofN minF [] a1 a2 b1 b2).1 (ofN minF [] a1 a2 b1 b2).2, h) :=
  lay_new (D5none 13 rfl rfl rfl rfl _ _) (D5none 13 rfl rfl rfl rfl _ _) rfl rfl rfl (ofEx (min2_walk fun h => cg_up (d4_29 (F := minF) (fun x y h hx hy => d1_39 x y h) _ _ _ _ h)))
theorem d5_14 (a1 a2 b1 b2 : Int) (h : SHeap) : D5 14 [spanV a1 a2, spanV b1 b2] h = some (spanV (ofN maxF [] a1 a2 b1 b2).1 (ofN maxF [] a1 a2 b1 b2).2, h) :=
  lay_new (D5none 14 rfl rfl rfl rfl _ _) (D5none 14 rfl rfl rfl rfl _ _) rfl rfl rfl (ofEx (max2_walk fun h => cg_up (d4_29 (F := maxF) (fun x y h hx hy => d1_40 x y h) _ _ _ _ h)))
end
end Go.Proofs.YtdnnjkneablfiaaGreatDoor
