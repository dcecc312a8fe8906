/- Layers of summaries: functions over plain arguments, each read over the layers beneath it. -/
import Derived.Test.YtdnnjkneablfiaaGreatDoorSxDv
import Derived.Test.YtdnnjkneablfiaaGreatDoorSxTab
import Derived.Test.YtdnnjkneablfiaaGreatDoorSxP
namespace Go.Proofs.YtdnnjkneablfiaaGreatDoor
open Go Go.Sx
set_option maxRecDepth 100000
set_option linter.unusedSimpArgs false
set_option linter.unusedVariables false

noncomputable def onlyS (fs : List FuncId) (call : SCall) : SCall := fun f args h => if fs.contains f then call f args h else none
theorem onlyS_ok {P : Program} {fs : List FuncId} {call : SCall} (hc : CallOK P call ∧ SnxOK call) : CallOK P (onlyS fs call) ∧ SnxOK (onlyS fs call) := by
  refine ⟨fun f args h v h' hs => ?_, fun f args h v h' hs => ?_⟩
  · unfold onlyS at hs
    split at hs
    · exact hc.1 _ _ _ _ _ hs
    · cases hs
  · unfold onlyS at hs
    split at hs
    · exact hc.2 _ _ _ _ _ hs
    · cases hs

noncomputable def lay (fs : List FuncId) (m : Nat) (base : SCall) (k : Nat) : SCall := orS base (onlyS fs (dropS m (callG Tryz.prog base k)))
section
variable {fs : List FuncId} {m k : Nat} {base : SCall} {f : FuncId} {args : List Value} {h : SHeap} {v : Value} {r : Value × SHeap}
theorem lay_ok (hb : CallOK Tryz.prog base ∧ SnxOK base) (hm : 1 ≤ m) : CallOK Tryz.prog (lay fs m base k) ∧ SnxOK (lay fs m base k) :=
  orS_ok hb (onlyS_ok (dropS_ok (callG_ok progOK_prog hb.1 hb.2 k).1 (by have := globsN; omega)))
theorem lay_up (hb : base f args h = some r) : lay fs m base k f args h = some r := by unfold lay orS; rw [hb]
theorem lay_none (hb : base f args h = none) (hf : fs.contains f = false) : lay fs m base k f args h = none := by unfold lay orS onlyS; rw [hb, hf]; rfl
theorem lay_stiff (hb : base f args h = none) (ha : args.all plainArg = false) : lay fs m base k f args h = none := by
  unfold lay orS onlyS dropS
  rw [hb, ha]
  simp
theorem cg_up {n : Nat} (hb : base f args h = some r) : callG Tryz.prog base (n + 1) f args h = some r := by
  unfold callG
  rw [hb]
theorem cg_body {n : Nat} (hb : base f args h = none) : callG Tryz.prog base (n + 1) f args h = bodyF Tryz.prog (callG Tryz.prog base n) n f args h := by
  rw [callG, hb]
theorem lay_new (hb : base f args (deadH m 0) = none) (hb' : base f args h = none) (hf : fs.contains f = true) (ha : args.all plainArg = true) (hv : flat v = true) (hw : ∃ h1, bodyF Tryz.prog (callG Tryz.prog base k) k f args (deadH m 0) = some (v, h1)) :
    lay fs m base (k + 1) f args h = some (v, h) := by
  have e : dropS m (callG Tryz.prog base (k + 1)) f args h = some (v, h) := dropS_of ha hv (by rw [cg_body hb]; exact hw)
  unfold lay orS onlyS
  rw [hb', hf, if_pos rfl, e]
end

/-! ### Numbers: closures, and the document's -/
section
variable {call : SCall} {n : Nat} {h : SHeap}
theorem add_walk {x y : Int} : bodyF Tryz.prog call n 30 [.int .i64 x, .int .i64 y] h = some (.int .i64 (IntKind.i64.wrap (x + y)), h) := by
  refine call_is Tryz.func30 rfl (by simp [Tryz.f30]) ?_
  have hr : Tryz.f30.results.toList = [.tmp 4] := rfl
  simp only [wk_seq, wk_block, wk_region, wkl_nil, wkl_cons, wk_cond, wkc_bool, wk_skip, wk_exit, wk_ret, ap_top, ap_seqN, ap_seqE, ap_seqR, ap_blkN, ap_blkE, ap_blkR, ap_invN, ap_invE, ap_invR, want_none, sop, wkr_some, wkr_map, wko_some, ev_tmp, ev_const, ev_func, tmps0, Tr.get_put, Tr.get_set, get_leaf, callS, evs, List.map_cons, List.map_nil, ↓reduceIte, Option.some.injEq, Nat.reduceEqDiff, bin_lss, bin_leq, bin_gtr, bin_geq, bin_eql, bin_neq, bin_add, bin_sub, bin_mul, max2, min2, resS, resV, decide_eq_true_eq, decide_eq_false_iff_not, beq_iff_eq, true_and, and_true, or_true, true_or, exists_eq_left', Option.map_some, Option.map_none, want_some, Option.bind_some, reduceCtorEq, List.nil_append, List.append_nil, List.cons_append, Value.int.injEq, wantD_some, List.getElem?_toArray, List.getElem?_cons_succ, List.getElem?_cons_zero, decide_true, decide_false, beq_self_eq_true, wantG_true, wantG_false, Bool.not_true, Bool.not_false, Bool.false_eq_true, if_true, if_false, flat_bool, flat_int, pure_not, pure_neg, ↓wk_tt, ↓wk_ff, false_implies, true_implies, wantG_undef, hr]
theorem sub_walk {x y : Int} : bodyF Tryz.prog call n 36 [.int .i64 x, .int .i64 y] h = some (.int .i64 (IntKind.i64.wrap (x - y)), h) := by
  refine call_is Tryz.func36 rfl (by simp [Tryz.f36]) ?_
  have hr : Tryz.f36.results.toList = [.tmp 4] := rfl
  simp only [wk_seq, wk_block, wk_region, wkl_nil, wkl_cons, wk_cond, wkc_bool, wk_skip, wk_exit, wk_ret, ap_top, ap_seqN, ap_seqE, ap_seqR, ap_blkN, ap_blkE, ap_blkR, ap_invN, ap_invE, ap_invR, want_none, sop, wkr_some, wkr_map, wko_some, ev_tmp, ev_const, ev_func, tmps0, Tr.get_put, Tr.get_set, get_leaf, callS, evs, List.map_cons, List.map_nil, ↓reduceIte, Option.some.injEq, Nat.reduceEqDiff, bin_lss, bin_leq, bin_gtr, bin_geq, bin_eql, bin_neq, bin_add, bin_sub, bin_mul, max2, min2, resS, resV, decide_eq_true_eq, decide_eq_false_iff_not, beq_iff_eq, true_and, and_true, or_true, true_or, exists_eq_left', Option.map_some, Option.map_none, want_some, Option.bind_some, reduceCtorEq, List.nil_append, List.append_nil, List.cons_append, Value.int.injEq, wantD_some, List.getElem?_toArray, List.getElem?_cons_succ, List.getElem?_cons_zero, decide_true, decide_false, beq_self_eq_true, wantG_true, wantG_false, Bool.not_true, Bool.not_false, Bool.false_eq_true, if_true, if_false, flat_bool, flat_int, pure_not, pure_neg, ↓wk_tt, ↓wk_ff, false_implies, true_implies, wantG_undef, hr]
theorem mul_walk {x y : Int} : bodyF Tryz.prog call n 37 [.int .i64 x, .int .i64 y] h = some (.int .i64 (IntKind.i64.wrap (x * y)), h) := by
  refine call_is Tryz.func37 rfl (by simp [Tryz.f37]) ?_
  have hr : Tryz.f37.results.toList = [.tmp 4] := rfl
  simp only [wk_seq, wk_block, wk_region, wkl_nil, wkl_cons, wk_cond, wkc_bool, wk_skip, wk_exit, wk_ret, ap_top, ap_seqN, ap_seqE, ap_seqR, ap_blkN, ap_blkE, ap_blkR, ap_invN, ap_invE, ap_invR, want_none, sop, wkr_some, wkr_map, wko_some, ev_tmp, ev_const, ev_func, tmps0, Tr.get_put, Tr.get_set, get_leaf, callS, evs, List.map_cons, List.map_nil, ↓reduceIte, Option.some.injEq, Nat.reduceEqDiff, bin_lss, bin_leq, bin_gtr, bin_geq, bin_eql, bin_neq, bin_add, bin_sub, bin_mul, max2, min2, resS, resV, decide_eq_true_eq, decide_eq_false_iff_not, beq_iff_eq, true_and, and_true, or_true, true_or, exists_eq_left', Option.map_some, Option.map_none, want_some, Option.bind_some, reduceCtorEq, List.nil_append, List.append_nil, List.cons_append, Value.int.injEq, wantD_some, List.getElem?_toArray, List.getElem?_cons_succ, List.getElem?_cons_zero, decide_true, decide_false, beq_self_eq_true, wantG_true, wantG_false, Bool.not_true, Bool.not_false, Bool.false_eq_true, if_true, if_false, flat_bool, flat_int, pure_not, pure_neg, ↓wk_tt, ↓wk_ff, false_implies, true_implies, wantG_undef, hr]
theorem min_walk {x y : Int} : bodyF Tryz.prog call n 39 [.int .i64 x, .int .i64 y] h = some (.int .i64 (if y < x then y else x), h) := by
  refine call_is Tryz.func39 rfl (by simp [Tryz.f39]) ?_
  have hr : Tryz.f39.results.toList = [.tmp 4] := rfl
  simp only [wk_seq, wk_block, wk_region, wkl_nil, wkl_cons, wk_cond, wkc_bool, wk_skip, wk_exit, wk_ret, ap_top, ap_seqN, ap_seqE, ap_seqR, ap_blkN, ap_blkE, ap_blkR, ap_invN, ap_invE, ap_invR, want_none, sop, wkr_some, wkr_map, wko_some, ev_tmp, ev_const, ev_func, tmps0, Tr.get_put, Tr.get_set, get_leaf, callS, evs, List.map_cons, List.map_nil, ↓reduceIte, Option.some.injEq, Nat.reduceEqDiff, bin_lss, bin_leq, bin_gtr, bin_geq, bin_eql, bin_neq, bin_add, bin_sub, bin_mul, max2, min2, resS, resV, decide_eq_true_eq, decide_eq_false_iff_not, beq_iff_eq, true_and, and_true, or_true, true_or, exists_eq_left', Option.map_some, Option.map_none, want_some, Option.bind_some, reduceCtorEq, List.nil_append, List.append_nil, List.cons_append, Value.int.injEq, wantD_some, List.getElem?_toArray, List.getElem?_cons_succ, List.getElem?_cons_zero, decide_true, decide_false, beq_self_eq_true, wantG_true, wantG_false, Bool.not_true, Bool.not_false, Bool.false_eq_true, if_true, if_false, flat_bool, flat_int, pure_not, pure_neg, ↓wk_tt, ↓wk_ff, false_implies, true_implies, wantG_undef, hr]
theorem max_walk {x y : Int} : bodyF Tryz.prog call n 40 [.int .i64 x, .int .i64 y] h = some (.int .i64 (if y > x then y else x), h) := by
  refine call_is Tryz.func40 rfl (by simp [Tryz.f40]) ?_
  have hr : Tryz.f40.results.toList = [.tmp 4] := rfl
  simp only [wk_seq, wk_block, wk_region, wkl_nil, wkl_cons, wk_cond, wkc_bool, wk_skip, wk_exit, wk_ret, ap_top, ap_seqN, ap_seqE, ap_seqR, ap_blkN, ap_blkE, ap_blkR, ap_invN, ap_invE, ap_invR, want_none, sop, wkr_some, wkr_map, wko_some, ev_tmp, ev_const, ev_func, tmps0, Tr.get_put, Tr.get_set, get_leaf, callS, evs, List.map_cons, List.map_nil, ↓reduceIte, Option.some.injEq, Nat.reduceEqDiff, bin_lss, bin_leq, bin_gtr, bin_geq, bin_eql, bin_neq, bin_add, bin_sub, bin_mul, max2, min2, resS, resV, decide_eq_true_eq, decide_eq_false_iff_not, beq_iff_eq, true_and, and_true, or_true, true_or, exists_eq_left', Option.map_some, Option.map_none, want_some, Option.bind_some, reduceCtorEq, List.nil_append, List.append_nil, List.cons_append, Value.int.injEq, wantD_some, List.getElem?_toArray, List.getElem?_cons_succ, List.getElem?_cons_zero, decide_true, decide_false, beq_self_eq_true, wantG_true, wantG_false, Bool.not_true, Bool.not_false, Bool.false_eq_true, if_true, if_false, flat_bool, flat_int, pure_not, pure_neg, ↓wk_tt, ↓wk_ff, false_implies, true_implies, wantG_undef, hr]
/-- What an operation makes of two numbers, by a row's kind, as the machine reckons. -/
def oneW (kind x y : Int) : Int :=
  if kind = 45 then IntKind.i64.wrap (x + y) else if kind = 46 then IntKind.i64.wrap (x - y) else if kind = 43 then IntKind.i64.wrap (x * y) else if kind = 44 then dvN x y
  else if kind = 39 then (if y < x then y else x) else (if y > x then y else x)
theorem one_walk (h81 : ∀ a b h, (-4611686018427387904 ≤ a ∧ a ≤ 4611686018427387904) → I64 b → call 81 [.int .i64 a, .int .i64 b] h = some (.int .i64 (dvN a b), h))
    (h43 : ∀ a b h, call 43 [.int .i64 a, .int .i64 b] h = some (.int .i64 (if b < a then b else a), h)) (h44 : ∀ a b h, call 44 [.int .i64 a, .int .i64 b] h = some (.int .i64 (if b > a then b else a), h))
    {kind x y : Int} (hx : -4611686018427387904 ≤ x ∧ x ≤ 4611686018427387904) (hy : I64 y) : bodyF Tryz.prog call n 35 [.int .i64 kind, .int .i64 x, .int .i64 y] h = some (.int .i64 (oneW kind x y), h) := by
  refine call_is Tryz.func35 rfl (by simp [Tryz.f35]) ?_
  have hr : Tryz.f35.results.toList = [.tmp 6] := rfl
  have h81' := fun h => h81 x y h hx hy
  unfold oneW
  by_cases k1 : kind = 45
  · subst k1; simp only [wk_seq, wk_block, wk_region, wkl_nil, wkl_cons, wk_cond, wkc_bool, wk_skip, wk_exit, wk_ret, ap_top, ap_seqN, ap_seqE, ap_seqR, ap_blkN, ap_blkE, ap_blkR, ap_invN, ap_invE, ap_invR, want_none, sop, wkr_some, wkr_map, wko_some, ev_tmp, ev_const, ev_func, tmps0, Tr.get_put, Tr.get_set, get_leaf, callS, evs, List.map_cons, List.map_nil, ↓reduceIte, Option.some.injEq, Nat.reduceEqDiff, bin_lss, bin_leq, bin_gtr, bin_geq, bin_eql, bin_neq, bin_add, bin_sub, bin_mul, max2, min2, resS, resV, decide_eq_true_eq, decide_eq_false_iff_not, beq_iff_eq, true_and, and_true, or_true, true_or, exists_eq_left', Option.map_some, Option.map_none, want_some, Option.bind_some, reduceCtorEq, List.nil_append, List.append_nil, List.cons_append, Value.int.injEq, wantD_some, List.getElem?_toArray, List.getElem?_cons_succ, List.getElem?_cons_zero, decide_true, decide_false, beq_self_eq_true, wantG_true, wantG_false, Bool.not_true, Bool.not_false, Bool.false_eq_true, if_true, if_false, flat_bool, flat_int, pure_not, pure_neg, ↓wk_tt, ↓wk_ff, false_implies, true_implies, wantG_undef, hr]
  have e1 : (kind == 45) = false := by simpa using k1
  by_cases k2 : kind = 46
  · subst k2; simp only [wk_seq, wk_block, wk_region, wkl_nil, wkl_cons, wk_cond, wkc_bool, wk_skip, wk_exit, wk_ret, ap_top, ap_seqN, ap_seqE, ap_seqR, ap_blkN, ap_blkE, ap_blkR, ap_invN, ap_invE, ap_invR, want_none, sop, wkr_some, wkr_map, wko_some, ev_tmp, ev_const, ev_func, tmps0, Tr.get_put, Tr.get_set, get_leaf, callS, evs, List.map_cons, List.map_nil, ↓reduceIte, Option.some.injEq, Nat.reduceEqDiff, bin_lss, bin_leq, bin_gtr, bin_geq, bin_eql, bin_neq, bin_add, bin_sub, bin_mul, max2, min2, resS, resV, decide_eq_true_eq, decide_eq_false_iff_not, beq_iff_eq, true_and, and_true, or_true, true_or, exists_eq_left', Option.map_some, Option.map_none, want_some, Option.bind_some, reduceCtorEq, List.nil_append, List.append_nil, List.cons_append, Value.int.injEq, wantD_some, List.getElem?_toArray, List.getElem?_cons_succ, List.getElem?_cons_zero, decide_true, decide_false, beq_self_eq_true, wantG_true, wantG_false, Bool.not_true, Bool.not_false, Bool.false_eq_true, if_true, if_false, flat_bool, flat_int, pure_not, pure_neg, ↓wk_tt, ↓wk_ff, false_implies, true_implies, wantG_undef, hr, e1]; rfl
  have e2 : (kind == 46) = false := by simpa using k2
  by_cases k3 : kind = 43
  · subst k3; simp only [wk_seq, wk_block, wk_region, wkl_nil, wkl_cons, wk_cond, wkc_bool, wk_skip, wk_exit, wk_ret, ap_top, ap_seqN, ap_seqE, ap_seqR, ap_blkN, ap_blkE, ap_blkR, ap_invN, ap_invE, ap_invR, want_none, sop, wkr_some, wkr_map, wko_some, ev_tmp, ev_const, ev_func, tmps0, Tr.get_put, Tr.get_set, get_leaf, callS, evs, List.map_cons, List.map_nil, ↓reduceIte, Option.some.injEq, Nat.reduceEqDiff, bin_lss, bin_leq, bin_gtr, bin_geq, bin_eql, bin_neq, bin_add, bin_sub, bin_mul, max2, min2, resS, resV, decide_eq_true_eq, decide_eq_false_iff_not, beq_iff_eq, true_and, and_true, or_true, true_or, exists_eq_left', Option.map_some, Option.map_none, want_some, Option.bind_some, reduceCtorEq, List.nil_append, List.append_nil, List.cons_append, Value.int.injEq, wantD_some, List.getElem?_toArray, List.getElem?_cons_succ, List.getElem?_cons_zero, decide_true, decide_false, beq_self_eq_true, wantG_true, wantG_false, Bool.not_true, Bool.not_false, Bool.false_eq_true, if_true, if_false, flat_bool, flat_int, pure_not, pure_neg, ↓wk_tt, ↓wk_ff, false_implies, true_implies, wantG_undef, hr, e1, e2]; rfl
  have e3 : (kind == 43) = false := by simpa using k3
  by_cases k4 : kind = 44
  · subst k4; simp only [wk_seq, wk_block, wk_region, wkl_nil, wkl_cons, wk_cond, wkc_bool, wk_skip, wk_exit, wk_ret, ap_top, ap_seqN, ap_seqE, ap_seqR, ap_blkN, ap_blkE, ap_blkR, ap_invN, ap_invE, ap_invR, want_none, sop, wkr_some, wkr_map, wko_some, ev_tmp, ev_const, ev_func, tmps0, Tr.get_put, Tr.get_set, get_leaf, callS, evs, List.map_cons, List.map_nil, ↓reduceIte, Option.some.injEq, Nat.reduceEqDiff, bin_lss, bin_leq, bin_gtr, bin_geq, bin_eql, bin_neq, bin_add, bin_sub, bin_mul, max2, min2, resS, resV, decide_eq_true_eq, decide_eq_false_iff_not, beq_iff_eq, true_and, and_true, or_true, true_or, exists_eq_left', Option.map_some, Option.map_none, want_some, Option.bind_some, reduceCtorEq, List.nil_append, List.append_nil, List.cons_append, Value.int.injEq, wantD_some, List.getElem?_toArray, List.getElem?_cons_succ, List.getElem?_cons_zero, decide_true, decide_false, beq_self_eq_true, wantG_true, wantG_false, Bool.not_true, Bool.not_false, Bool.false_eq_true, if_true, if_false, flat_bool, flat_int, pure_not, pure_neg, ↓wk_tt, ↓wk_ff, false_implies, true_implies, wantG_undef, hr, e1, e2, e3, h81']; rfl
  have e4 : (kind == 44) = false := by simpa using k4
  by_cases k5 : kind = 39
  · subst k5; simp only [wk_seq, wk_block, wk_region, wkl_nil, wkl_cons, wk_cond, wkc_bool, wk_skip, wk_exit, wk_ret, ap_top, ap_seqN, ap_seqE, ap_seqR, ap_blkN, ap_blkE, ap_blkR, ap_invN, ap_invE, ap_invR, want_none, sop, wkr_some, wkr_map, wko_some, ev_tmp, ev_const, ev_func, tmps0, Tr.get_put, Tr.get_set, get_leaf, callS, evs, List.map_cons, List.map_nil, ↓reduceIte, Option.some.injEq, Nat.reduceEqDiff, bin_lss, bin_leq, bin_gtr, bin_geq, bin_eql, bin_neq, bin_add, bin_sub, bin_mul, max2, min2, resS, resV, decide_eq_true_eq, decide_eq_false_iff_not, beq_iff_eq, true_and, and_true, or_true, true_or, exists_eq_left', Option.map_some, Option.map_none, want_some, Option.bind_some, reduceCtorEq, List.nil_append, List.append_nil, List.cons_append, Value.int.injEq, wantD_some, List.getElem?_toArray, List.getElem?_cons_succ, List.getElem?_cons_zero, decide_true, decide_false, beq_self_eq_true, wantG_true, wantG_false, Bool.not_true, Bool.not_false, Bool.false_eq_true, if_true, if_false, flat_bool, flat_int, pure_not, pure_neg, ↓wk_tt, ↓wk_ff, false_implies, true_implies, wantG_undef, hr, e1, e2, e3, e4, h43]; rfl
  have e5 : (kind == 39) = false := by simpa using k5
  simp only [wk_seq, wk_block, wk_region, wkl_nil, wkl_cons, wk_cond, wkc_bool, wk_skip, wk_exit, wk_ret, ap_top, ap_seqN, ap_seqE, ap_seqR, ap_blkN, ap_blkE, ap_blkR, ap_invN, ap_invE, ap_invR, want_none, sop, wkr_some, wkr_map, wko_some, ev_tmp, ev_const, ev_func, tmps0, Tr.get_put, Tr.get_set, get_leaf, callS, evs, List.map_cons, List.map_nil, ↓reduceIte, Option.some.injEq, Nat.reduceEqDiff, bin_lss, bin_leq, bin_gtr, bin_geq, bin_eql, bin_neq, bin_add, bin_sub, bin_mul, max2, min2, resS, resV, decide_eq_true_eq, decide_eq_false_iff_not, beq_iff_eq, true_and, and_true, or_true, true_or, exists_eq_left', Option.map_some, Option.map_none, want_some, Option.bind_some, reduceCtorEq, List.nil_append, List.append_nil, List.cons_append, Value.int.injEq, wantD_some, List.getElem?_toArray, List.getElem?_cons_succ, List.getElem?_cons_zero, decide_true, decide_false, beq_self_eq_true, wantG_true, wantG_false, Bool.not_true, Bool.not_false, Bool.false_eq_true, if_true, if_false, flat_bool, flat_int, pure_not, pure_neg, ↓wk_tt, ↓wk_ff, false_implies, true_implies, wantG_undef, hr, e1, e2, e3, e4, e5, h44, k1, k2, k3, k4, k5]
end
end Go.Proofs.YtdnnjkneablfiaaGreatDoor
