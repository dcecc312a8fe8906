/- Products, by the shadow reading. -/
import Derived.Test.YtdhehcalmjcpgaaDoorSxCost
namespace Go.Proofs.YtdhehcalmjcpgaaDoor
open Go Go.Sx
set_option maxRecDepth 100000
set_option linter.unusedSimpArgs false
set_option linter.unusedVariables false

theorem mask32 (a : Nat) (ha : a < 18446744073709551616) : bits .and .u64 (a : Int) 4294967295 = ((a % 4294967296 : Nat) : Int) := by
  have h := bits_and_u64_nat a 4294967295 ha (by omega)
  have e : a &&& 4294967295 = a % 4294967296 := Nat.and_two_pow_sub_one_eq_mod a 32
  rw [e] at h
  exact h
theorem shr32 (a : Nat) : (a : Int).fdiv (2 ^ min ((32 : Int).toNat) IntKind.u64.bits) = ((a / 4294967296 : Nat) : Int) := by
  rw [Int.fdiv_eq_ediv_of_nonneg _ (by decide)]
  rfl
theorem wrapU (a : Nat) (ha : a < 18446744073709551616) : IntKind.u64.wrap (a : Int) = (a : Int) := wrap_uid (by omega) (by omega)
theorem mulU (a b : Nat) : (a : Int) * (b : Int) = ((a * b : Nat) : Int) := (Int.natCast_mul a b).symm
theorem addU (a b : Nat) : (a : Int) + (b : Int) = ((a + b : Nat) : Int) := (Int.natCast_add a b).symm

section
variable {call : SCall} {n : Nat} {h : SHeap} {v : Value} {l : List Int}
theorem mul64_walk (x y : Nat) (hx : x < 18446744073709551616) (hy : y < 18446744073709551616) :
    bodyF Tryd.prog call n 79 [.int .u64 x, .int .u64 y] h = some (.tuple #[.int .u64 ((x * y / 18446744073709551616 : Nat) : Int), .int .u64 ((x * y % 18446744073709551616 : Nat) : Int)], h) := by
  refine call_is Tryd.func79 rfl (by simp [Tryd.f79]) ?_
  have hr : Tryd.f79.results.toList = [.tmp 4, .tmp 5] := rfl
  obtain ⟨bd, bt, bw, hhi⟩ := Lib.mul64_hi x y hx hy
  have ba := Lib.half_mul_le (a := x / 4294967296) (b := y / 4294967296) (by omega) (by omega)
  have h32 : ¬ (32 : Int) < 0 := by omega
  simp only [wk_seq, wk_block, wk_region, wkl_nil, wkl_cons, wk_cond, wkc_bool, wk_skip, wk_exit, wk_ret, ap_top, ap_seqN, ap_seqE, ap_seqR, ap_blkN, ap_blkE, ap_blkR, ap_invN, ap_invE, ap_invR, want_none, sop, wkr_some, wkr_map, wko_some, ev_tmp, ev_const, ev_func, tmps0, Tr.get_put, Tr.get_set, get_leaf, callS, evs, List.map_cons, List.map_nil, ↓reduceIte, Option.some.injEq, Nat.reduceEqDiff, bin_lss, bin_leq, bin_gtr, bin_geq, bin_eql, bin_neq, bin_add, bin_sub, bin_mul, max2, min2, resS, resV, decide_eq_true_eq, decide_eq_false_iff_not, beq_iff_eq, true_and, and_true, or_true, true_or, exists_eq_left', Option.map_some, Option.map_none, want_some, Option.bind_some, reduceCtorEq, List.nil_append, List.append_nil, List.cons_append, Value.int.injEq, wantD_some, List.getElem?_toArray, List.getElem?_cons_succ, List.getElem?_cons_zero, decide_true, decide_false, beq_self_eq_true, wantG_true, wantG_false, Bool.not_true, Bool.not_false, Bool.false_eq_true, if_true, if_false, flat_bool, flat_int, pure_not, pure_neg, hr, bin_and, bin_shr h32, mask32 x hx, mask32 y hy, shr32, mulU]
  have b1 := Lib.half_mul_le (a := x / 4294967296) (b := y % 4294967296) (by omega) (by omega)
  have b2 := Lib.half_mul_le (a := x % 4294967296) (b := y / 4294967296) (by omega) (by omega)
  have hq : x * y / 18446744073709551616 < 18446744073709551616 := by
    refine Nat.div_lt_of_lt_mul ?_
    exact Nat.lt_of_le_of_lt (Nat.mul_le_mul_right y (Nat.le_of_lt hx)) (Nat.mul_lt_mul_of_pos_left hy (by omega))
  rw [wrapU (x % 4294967296 * (y % 4294967296)) bd, shr32, wrapU (x / 4294967296 * (y % 4294967296)) (by omega), addU, wrapU _ bt, shr32, mask32 _ bt, wrapU (x % 4294967296 * (y / 4294967296)) (by omega), addU, wrapU _ bw, shr32,
    wrapU (x / 4294967296 * (y / 4294967296)) (by omega), addU, wrapU _ (by omega), addU, wrapU _ (by omega), hhi, wrap_umod]

/-- The product, up to the most; 0 if one is not above 0. -/
def fold (l : List Int) : Int := l.foldl (fun n x => if n * x > 4611686018427387904 then 4611686018427387904 else n * x) 1
def allPos (l : List Int) : Bool := l.all fun x => decide (0 < x)
def satTimes (l : List Int) : Int := if allPos l then fold l else 0

theorem fold_take {l : List Int} {k : Nat} {x : Int} (hk : l[k]? = some x) : fold (l.take (k + 1)) = if fold (l.take k) * x > 4611686018427387904 then 4611686018427387904 else fold (l.take k) * x := by
  unfold fold
  rw [List.take_add_one, hk, List.foldl_append]
  rfl
theorem allPos_take {l : List Int} {k : Nat} {x : Int} (hk : l[k]? = some x) : allPos (l.take (k + 1)) = (allPos (l.take k) && decide (0 < x)) := by
  unfold allPos
  rw [List.take_add_one, hk, List.all_append]
  simp
theorem fold_range {l : List Int} (h : allPos l = true) : 1 ≤ fold l ∧ fold l ≤ 4611686018427387904 := by
  have key : ∀ (l : List Int) (a : Int), allPos l = true → 1 ≤ a ∧ a ≤ 4611686018427387904 → 1 ≤ l.foldl (fun n x => if n * x > 4611686018427387904 then 4611686018427387904 else n * x) a ∧ l.foldl (fun n x => if n * x > 4611686018427387904 then 4611686018427387904 else n * x) a ≤ 4611686018427387904 := by
    intro l
    induction l with
    | nil => intro a _ ha; exact ha
    | cons x l ih =>
      intro a hl ha
      simp only [allPos, List.all_cons, Bool.and_eq_true, decide_eq_true_eq] at hl
      rw [List.foldl_cons]
      refine ih _ hl.2 ?_
      have : 0 < a * x := Int.mul_pos (by omega) hl.1
      split <;> omega
  exact key l 1 h (by omega)
theorem allPos_false {l : List Int} {k : Nat} {x : Int} (hk : l[k]? = some x) (hx : x ≤ 0) : allPos l = false := by
  unfold allPos
  rw [List.all_eq_false]
  exact ⟨x, List.mem_of_getElem? hk, by simp; omega⟩

theorem times_walk (hm : ∀ x y h, x < 18446744073709551616 → y < 18446744073709551616 → call 79 [.int .u64 (x : Nat), .int .u64 (y : Nat)] h = some (.tuple #[.int .u64 ((x * y / 18446744073709551616 : Nat) : Int), .int .u64 ((x * y % 18446744073709551616 : Nat) : Int)], h))
    (hv : IntsAt h v l) (hl : In64 l) (hlen : l.length < 9223372036854775807) (hn : l.length < n) : bodyF Tryd.prog call n 44 [v] h = some (.int .i64 (satTimes l), h) := by
  refine call_is Tryd.func44 rfl (by simp [Tryd.f44]) ?_
  have hr : Tryd.f44.results.toList = [.tmp 2] := rfl
  simp only [wk_seq, wk_block, wk_region, wkl_nil, wkl_cons, wk_cond, wkc_bool, wk_skip, wk_exit, wk_ret, ap_top, ap_seqN, ap_seqE, ap_seqR, ap_blkN, ap_blkE, ap_blkR, ap_invN, ap_invE, ap_invR, want_none, sop, wkr_some, wkr_map, wko_some, ev_tmp, ev_const, ev_func, tmps0, Tr.get_put, Tr.get_set, get_leaf, callS, evs, List.map_cons, List.map_nil, ↓reduceIte, Option.some.injEq, Nat.reduceEqDiff, bin_lss, bin_leq, bin_gtr, bin_geq, bin_eql, bin_neq, bin_add, bin_sub, bin_mul, max2, min2, resS, resV, decide_eq_true_eq, decide_eq_false_iff_not, beq_iff_eq, true_and, and_true, or_true, true_or, exists_eq_left', Option.map_some, Option.map_none, want_some, Option.bind_some, reduceCtorEq, List.nil_append, List.append_nil, List.cons_append, Value.int.injEq, wantD_some, List.getElem?_toArray, List.getElem?_cons_succ, List.getElem?_cons_zero, decide_true, decide_false, beq_self_eq_true, wantG_true, wantG_false, Bool.not_true, Bool.not_false, Bool.false_eq_true, if_true, if_false, flat_bool, flat_int, pure_not, pure_neg, hv.len Tryd.underlying28, hr]
  refine WK.loop (fun k s => s.h = h ∧ s.T.get 0 = v ∧ s.T.get 10 = v ∧ s.T.get 11 = .int .i64 l.length ∧ s.T.get 12 = .int .i64 k ∧ s.T.get 3 = .int .i64 1 ∧ allPos (l.take k) = true) l.length hn ?_ ?_
  · simp only [wk_seq, wk_block, wk_region, wkl_nil, wkl_cons, wk_cond, wkc_bool, wk_skip, wk_exit, wk_ret, ap_top, ap_seqN, ap_seqE, ap_seqR, ap_blkN, ap_blkE, ap_blkR, ap_invN, ap_invE, ap_invR, want_none, sop, wkr_some, wkr_map, wko_some, ev_tmp, ev_const, ev_func, tmps0, Tr.get_put, Tr.get_set, get_leaf, callS, evs, List.map_cons, List.map_nil, ↓reduceIte, Option.some.injEq, Nat.reduceEqDiff, bin_lss, bin_leq, bin_gtr, bin_geq, bin_eql, bin_neq, bin_add, bin_sub, bin_mul, max2, min2, resS, resV, decide_eq_true_eq, decide_eq_false_iff_not, beq_iff_eq, true_and, and_true, or_true, true_or, exists_eq_left', Option.map_some, Option.map_none, want_some, Option.bind_some, reduceCtorEq, List.nil_append, List.append_nil, List.cons_append, Value.int.injEq, wantD_some, List.getElem?_toArray, List.getElem?_cons_succ, List.getElem?_cons_zero, decide_true, decide_false, beq_self_eq_true, wantG_true, wantG_false, Bool.not_true, Bool.not_false, Bool.false_eq_true, if_true, if_false, flat_bool, flat_int, pure_not, pure_neg]
    exact ⟨rfl, rfl⟩
  · rintro k ⟨T, h1⟩ hk ⟨rfl, h0, h10, h11, h12, h3, ha⟩
    simp only at h0 h10 h11 h12 h3
    simp only [wk_seq, wk_block, wk_region, wkl_nil, wkl_cons, wk_cond, wkc_bool, wk_skip, wk_exit, wk_ret, ap_top, ap_seqN, ap_seqE, ap_seqR, ap_blkN, ap_blkE, ap_blkR, ap_invN, ap_invE, ap_invR, want_none, sop, wkr_some, wkr_map, wko_some, ev_tmp, ev_const, ev_func, tmps0, Tr.get_put, Tr.get_set, get_leaf, callS, evs, List.map_cons, List.map_nil, ↓reduceIte, Option.some.injEq, Nat.reduceEqDiff, bin_lss, bin_leq, bin_gtr, bin_geq, bin_eql, bin_neq, bin_add, bin_sub, bin_mul, max2, min2, resS, resV, decide_eq_true_eq, decide_eq_false_iff_not, beq_iff_eq, true_and, and_true, or_true, true_or, exists_eq_left', Option.map_some, Option.map_none, want_some, Option.bind_some, reduceCtorEq, List.nil_append, List.append_nil, List.cons_append, Value.int.injEq, wantD_some, List.getElem?_toArray, List.getElem?_cons_succ, List.getElem?_cons_zero, decide_true, decide_false, beq_self_eq_true, wantG_true, wantG_false, Bool.not_true, Bool.not_false, Bool.false_eq_true, if_true, if_false, flat_bool, flat_int, pure_not, pure_neg, h0, h10, h11, h12, h3]
    refine ⟨fun hlt => ?_, fun hge => ?_⟩
    · have hlt' : k < l.length := by omega
      have hx : l[k]? = some l[k] := List.getElem?_eq_getElem hlt'
      have htk := allPos_take hx
      have hz := fun h => allPos_false hx h
      generalize l[k] = x at hx htk hz
      obtain ⟨p, hp1, hp2⟩ := hv.idx Tryd.underlying28 sz3 agg3 hx (kd := .i64)
      simp only [wk_seq, wk_block, wk_region, wkl_nil, wkl_cons, wk_cond, wkc_bool, wk_skip, wk_exit, wk_ret, ap_top, ap_seqN, ap_seqE, ap_seqR, ap_blkN, ap_blkE, ap_blkR, ap_invN, ap_invE, ap_invR, want_none, sop, wkr_some, wkr_map, wko_some, ev_tmp, ev_const, ev_func, tmps0, Tr.get_put, Tr.get_set, get_leaf, callS, evs, List.map_cons, List.map_nil, ↓reduceIte, Option.some.injEq, Nat.reduceEqDiff, bin_lss, bin_leq, bin_gtr, bin_geq, bin_eql, bin_neq, bin_add, bin_sub, bin_mul, max2, min2, resS, resV, decide_eq_true_eq, decide_eq_false_iff_not, beq_iff_eq, true_and, and_true, or_true, true_or, exists_eq_left', Option.map_some, Option.map_none, want_some, Option.bind_some, reduceCtorEq, List.nil_append, List.append_nil, List.cons_append, Value.int.injEq, wantD_some, List.getElem?_toArray, List.getElem?_cons_succ, List.getElem?_cons_zero, decide_true, decide_false, beq_self_eq_true, wantG_true, wantG_false, Bool.not_true, Bool.not_false, Bool.false_eq_true, if_true, if_false, flat_bool, flat_int, pure_not, pure_neg, hp1, hp2, h0, h10, h11, h12, h3]
      refine ⟨fun hle => ?_, fun hgt => ⟨hlt', ?_, ?_⟩⟩
      · unfold satTimes
        rw [hz hle]
        rfl
      · rw [wrap_id (by omega) (by omega)]; rfl
      · rw [htk, ha]; simp; omega
    · have hkl : k = l.length := by omega
      subst hkl
      rw [List.take_length] at ha
      simp only [wk_seq, wk_block, wk_region, wkl_nil, wkl_cons, wk_cond, wkc_bool, wk_skip, wk_exit, wk_ret, ap_top, ap_seqN, ap_seqE, ap_seqR, ap_blkN, ap_blkE, ap_blkR, ap_invN, ap_invE, ap_invR, want_none, sop, wkr_some, wkr_map, wko_some, ev_tmp, ev_const, ev_func, tmps0, Tr.get_put, Tr.get_set, get_leaf, callS, evs, List.map_cons, List.map_nil, ↓reduceIte, Option.some.injEq, Nat.reduceEqDiff, bin_lss, bin_leq, bin_gtr, bin_geq, bin_eql, bin_neq, bin_add, bin_sub, bin_mul, max2, min2, resS, resV, decide_eq_true_eq, decide_eq_false_iff_not, beq_iff_eq, true_and, and_true, or_true, true_or, exists_eq_left', Option.map_some, Option.map_none, want_some, Option.bind_some, reduceCtorEq, List.nil_append, List.append_nil, List.cons_append, Value.int.injEq, wantD_some, List.getElem?_toArray, List.getElem?_cons_succ, List.getElem?_cons_zero, decide_true, decide_false, beq_self_eq_true, wantG_true, wantG_false, Bool.not_true, Bool.not_false, Bool.false_eq_true, if_true, if_false, flat_bool, flat_int, pure_not, pure_neg, h0, h3, hv.len Tryd.underlying28]
      refine WK.loop (fun k s => s.h = h1 ∧ s.T.get 19 = v ∧ s.T.get 20 = .int .i64 l.length ∧ s.T.get 21 = .int .i64 k ∧ s.T.get 3 = .int .i64 (fold (l.take k))) l.length hn ?_ ?_
      · simp only [wk_seq, wk_block, wk_region, wkl_nil, wkl_cons, wk_cond, wkc_bool, wk_skip, wk_exit, wk_ret, ap_top, ap_seqN, ap_seqE, ap_seqR, ap_blkN, ap_blkE, ap_blkR, ap_invN, ap_invE, ap_invR, want_none, sop, wkr_some, wkr_map, wko_some, ev_tmp, ev_const, ev_func, tmps0, Tr.get_put, Tr.get_set, get_leaf, callS, evs, List.map_cons, List.map_nil, ↓reduceIte, Option.some.injEq, Nat.reduceEqDiff, bin_lss, bin_leq, bin_gtr, bin_geq, bin_eql, bin_neq, bin_add, bin_sub, bin_mul, max2, min2, resS, resV, decide_eq_true_eq, decide_eq_false_iff_not, beq_iff_eq, true_and, and_true, or_true, true_or, exists_eq_left', Option.map_some, Option.map_none, want_some, Option.bind_some, reduceCtorEq, List.nil_append, List.append_nil, List.cons_append, Value.int.injEq, wantD_some, List.getElem?_toArray, List.getElem?_cons_succ, List.getElem?_cons_zero, decide_true, decide_false, beq_self_eq_true, wantG_true, wantG_false, Bool.not_true, Bool.not_false, Bool.false_eq_true, if_true, if_false, flat_bool, flat_int, pure_not, pure_neg, h3]
        exact ⟨rfl, rfl⟩
      · rintro k ⟨T2, h2⟩ hk2 ⟨rfl, h19, h20, h21, h3'⟩
        simp only at h19 h20 h21 h3'
        simp only [wk_seq, wk_block, wk_region, wkl_nil, wkl_cons, wk_cond, wkc_bool, wk_skip, wk_exit, wk_ret, ap_top, ap_seqN, ap_seqE, ap_seqR, ap_blkN, ap_blkE, ap_blkR, ap_invN, ap_invE, ap_invR, want_none, sop, wkr_some, wkr_map, wko_some, ev_tmp, ev_const, ev_func, tmps0, Tr.get_put, Tr.get_set, get_leaf, callS, evs, List.map_cons, List.map_nil, ↓reduceIte, Option.some.injEq, Nat.reduceEqDiff, bin_lss, bin_leq, bin_gtr, bin_geq, bin_eql, bin_neq, bin_add, bin_sub, bin_mul, max2, min2, resS, resV, decide_eq_true_eq, decide_eq_false_iff_not, beq_iff_eq, true_and, and_true, or_true, true_or, exists_eq_left', Option.map_some, Option.map_none, want_some, Option.bind_some, reduceCtorEq, List.nil_append, List.append_nil, List.cons_append, Value.int.injEq, wantD_some, List.getElem?_toArray, List.getElem?_cons_succ, List.getElem?_cons_zero, decide_true, decide_false, beq_self_eq_true, wantG_true, wantG_false, Bool.not_true, Bool.not_false, Bool.false_eq_true, if_true, if_false, flat_bool, flat_int, pure_not, pure_neg, h19, h20, h21, h3']
        refine ⟨fun hlt => ?_, fun hge => ?_⟩
        · have hlt' : k < l.length := by omega
          have hx : l[k]? = some l[k] := List.getElem?_eq_getElem hlt'
          have htk := fold_take hx
          have hin := hl l[k] (List.getElem_mem hlt')
          have hpos : 0 < l[k] := by
            have := List.all_eq_true.1 ha l[k] (List.getElem_mem hlt')
            simpa using this
          have hfr := fold_range (l := l.take k) (by
            unfold allPos at ha ⊢
            rw [List.all_eq_true] at ha ⊢
            exact fun x hx => ha x (List.mem_of_mem_take hx))
          generalize l[k] = x at hx htk hin hpos
          generalize fold (l.take k) = a at htk hfr h3'
          obtain ⟨p, hp1, hp2⟩ := hv.idx Tryd.underlying28 sz3 agg3 hx (kd := .i64)
          obtain ⟨a, rfl⟩ : ∃ m : Nat, a = m := ⟨a.toNat, by omega⟩
          obtain ⟨x, rfl⟩ : ∃ m : Nat, x = m := ⟨x.toNat, by omega⟩
          have hma := hm a x h2 (by omega) (by omega)
          have hcast : (a : Int) * (x : Int) = ((a * x : Nat) : Int) := mulU a x
          rw [hcast] at htk
          generalize hhi : a * x / 18446744073709551616 = hi at hma
          generalize hlo : a * x % 18446744073709551616 = lo at hma
          generalize a * x = ax at hhi hlo htk
          by_cases hc : (hi : Int) > 0
          · simp only [wk_seq, wk_block, wk_region, wkl_nil, wkl_cons, wk_cond, wkc_bool, wk_skip, wk_exit, wk_ret, ap_top, ap_seqN, ap_seqE, ap_seqR, ap_blkN, ap_blkE, ap_blkR, ap_invN, ap_invE, ap_invR, want_none, sop, wkr_some, wkr_map, wko_some, ev_tmp, ev_const, ev_func, tmps0, Tr.get_put, Tr.get_set, get_leaf, callS, evs, List.map_cons, List.map_nil, ↓reduceIte, Option.some.injEq, Nat.reduceEqDiff, bin_lss, bin_leq, bin_gtr, bin_geq, bin_eql, bin_neq, bin_add, bin_sub, bin_mul, max2, min2, resS, resV, decide_eq_true_eq, decide_eq_false_iff_not, beq_iff_eq, true_and, and_true, or_true, true_or, exists_eq_left', Option.map_some, Option.map_none, want_some, Option.bind_some, reduceCtorEq, List.nil_append, List.append_nil, List.cons_append, Value.int.injEq, wantD_some, List.getElem?_toArray, List.getElem?_cons_succ, List.getElem?_cons_zero, decide_true, decide_false, beq_self_eq_true, wantG_true, wantG_false, Bool.not_true, Bool.not_false, Bool.false_eq_true, if_true, if_false, flat_bool, flat_int, pure_not, pure_neg, hp1, hp2, h19, h20, h21, h3', conv_int Tryd.underlying3 Tryd.underlying96, wrapU a (by omega), wrapU x (by omega), hma, conv_int Tryd.underlying96 Tryd.underlying3, hc]
            refine ⟨fun _ => ⟨hlt', ?_, ?_⟩, fun h => (by cases h)⟩
            · rw [wrap_id (by omega) (by omega)]; rfl
            · rw [htk, if_pos (by omega)]
          · simp only [wk_seq, wk_block, wk_region, wkl_nil, wkl_cons, wk_cond, wkc_bool, wk_skip, wk_exit, wk_ret, ap_top, ap_seqN, ap_seqE, ap_seqR, ap_blkN, ap_blkE, ap_blkR, ap_invN, ap_invE, ap_invR, want_none, sop, wkr_some, wkr_map, wko_some, ev_tmp, ev_const, ev_func, tmps0, Tr.get_put, Tr.get_set, get_leaf, callS, evs, List.map_cons, List.map_nil, ↓reduceIte, Option.some.injEq, Nat.reduceEqDiff, bin_lss, bin_leq, bin_gtr, bin_geq, bin_eql, bin_neq, bin_add, bin_sub, bin_mul, max2, min2, resS, resV, decide_eq_true_eq, decide_eq_false_iff_not, beq_iff_eq, true_and, and_true, or_true, true_or, exists_eq_left', Option.map_some, Option.map_none, want_some, Option.bind_some, reduceCtorEq, List.nil_append, List.append_nil, List.cons_append, Value.int.injEq, wantD_some, List.getElem?_toArray, List.getElem?_cons_succ, List.getElem?_cons_zero, decide_true, decide_false, beq_self_eq_true, wantG_true, wantG_false, Bool.not_true, Bool.not_false, Bool.false_eq_true, if_true, if_false, flat_bool, flat_int, pure_not, pure_neg, hp1, hp2, h19, h20, h21, h3', conv_int Tryd.underlying3 Tryd.underlying96, wrapU a (by omega), wrapU x (by omega), hma, conv_int Tryd.underlying96 Tryd.underlying3, hc]
            refine ⟨fun hgt => ⟨hlt', ?_, ?_⟩, fun hle => ⟨hlt', ?_, ?_⟩⟩
            · rw [wrap_id (by omega) (by omega)]; rfl
            · rw [htk, if_pos (by omega)]
            · rw [wrap_id (by omega) (by omega)]; rfl
            · rw [htk, if_neg (by omega), wrap_id (by omega) (by omega)]; omega
        · have hkl : k = l.length := by omega
          subst hkl
          rw [List.take_length] at h3'
          unfold satTimes
          rw [ha, List.take_length]
          rfl

theorem satBy_fold {l : List Int} {k : Nat} {x : Int} (hk : l[k]? = some x) : satBy (satTimes (l.take k)) (partN x) = satTimes (l.take (k + 1)) := by
  unfold satTimes
  rw [allPos_take hk, fold_take hk]
  cases ha : allPos (l.take k) with
  | false =>
    simp [satBy]
  | true =>
    obtain ⟨h1, h2⟩ := fold_range ha
    generalize fold (l.take k) = a at h1 h2
    simp only [Bool.true_and, if_true, decide_eq_true_eq]
    by_cases hx : 0 < x
    · rw [if_pos hx]
      have hd : ∀ m : Int, (m > 4611686018427387904 / a ↔ a * m > 4611686018427387904) := fun m => by
        have := Int.ediv_lt_iff_lt_mul (a := 4611686018427387904) (b := m) (c := a) (by omega)
        rw [Int.mul_comm a m]
        exact this
      unfold satBy
      by_cases hb : x > 4611686018427387904
      · have hp : partN x = 4611686018427387904 := by unfold partN; rw [if_neg (by omega), if_pos hb]
        have hax : a * x > 4611686018427387904 := by
          have := Int.mul_le_mul_of_nonneg_right (show 1 ≤ a by omega) (show 0 ≤ x by omega)
          omega
        rw [hp, if_pos hax]
        by_cases h3 : 4611686018427387904 > 4611686018427387904 / a
        · rw [if_pos ⟨by omega, h3⟩]
        · rw [if_neg (fun h => h3 h.2)]
          have h4 : ¬ a * 4611686018427387904 > 4611686018427387904 := fun h => h3 ((hd 4611686018427387904).2 h)
          have h5 := Int.mul_le_mul_of_nonneg_right (show 1 ≤ a by omega) (show (0 : Int) ≤ 4611686018427387904 by omega)
          omega
      · have hp : partN x = x := by unfold partN; rw [if_neg (by omega), if_neg hb]
        rw [hp]
        by_cases h3 : a * x > 4611686018427387904
        · rw [if_pos ⟨by omega, (hd x).2 h3⟩, if_pos h3]
        · rw [if_neg (fun h => h3 ((hd x).1 h.2)), if_neg h3]
    · have hp : partN x = 0 := by unfold partN; split <;> (try split) <;> omega
      rw [if_neg hx, hp]
      unfold satBy
      have h0 : 0 ≤ 4611686018427387904 / a := Int.ediv_nonneg (by omega) (by omega)
      rw [if_neg (fun h => by omega), Int.mul_zero]
theorem satTimes_range (l : List Int) : 0 ≤ satTimes l ∧ satTimes l ≤ 4611686018427387904 := by
  unfold satTimes
  split
  · rename_i h; have := fold_range h; omega
  · omega
theorem rtimes_walk (hp : ∀ x h, call 81 [.int .i64 x] h = some (.int .i64 (partN x), h)) (hq : ∀ a b h, 0 ≤ a ∧ a ≤ 4611686018427387904 → 0 ≤ b ∧ b ≤ 4611686018427387904 → call 82 [.int .i64 a, .int .i64 b] h = some (.int .i64 (satBy a b), h))
    (hv : IntsAt h v l) (hlen : l.length < 9223372036854775807) (hn : l.length < n) : bodyF Tryd.prog call n 47 [v] h = some (.int .i64 (satTimes l), h) := by
  refine call_is Tryd.func47 rfl (by simp [Tryd.f47]) ?_
  have hr : Tryd.f47.results.toList = [.tmp 2] := rfl
  simp only [wk_seq, wk_block, wk_region, wkl_nil, wkl_cons, wk_cond, wkc_bool, wk_skip, wk_exit, wk_ret, ap_top, ap_seqN, ap_seqE, ap_seqR, ap_blkN, ap_blkE, ap_blkR, ap_invN, ap_invE, ap_invR, want_none, sop, wkr_some, wkr_map, wko_some, ev_tmp, ev_const, ev_func, tmps0, Tr.get_put, Tr.get_set, get_leaf, callS, evs, List.map_cons, List.map_nil, ↓reduceIte, Option.some.injEq, Nat.reduceEqDiff, bin_lss, bin_leq, bin_gtr, bin_geq, bin_eql, bin_neq, bin_add, bin_sub, bin_mul, max2, min2, resS, resV, decide_eq_true_eq, decide_eq_false_iff_not, beq_iff_eq, true_and, and_true, or_true, true_or, exists_eq_left', Option.map_some, Option.map_none, want_some, Option.bind_some, reduceCtorEq, List.nil_append, List.append_nil, List.cons_append, Value.int.injEq, wantD_some, List.getElem?_toArray, List.getElem?_cons_succ, List.getElem?_cons_zero, decide_true, decide_false, beq_self_eq_true, wantG_true, wantG_false, Bool.not_true, Bool.not_false, Bool.false_eq_true, if_true, if_false, flat_bool, flat_int, pure_not, pure_neg, hv.len Tryd.underlying28, hr]
  refine WK.loop (fun k s => s.h = h ∧ s.T.get 0 = v ∧ s.T.get 4 = .int .i64 k ∧ s.T.get 3 = .int .i64 (satTimes (l.take k))) l.length hn ?_ ?_
  · simp only [wk_seq, wk_block, wk_region, wkl_nil, wkl_cons, wk_cond, wkc_bool, wk_skip, wk_exit, wk_ret, ap_top, ap_seqN, ap_seqE, ap_seqR, ap_blkN, ap_blkE, ap_blkR, ap_invN, ap_invE, ap_invR, want_none, sop, wkr_some, wkr_map, wko_some, ev_tmp, ev_const, ev_func, tmps0, Tr.get_put, Tr.get_set, get_leaf, callS, evs, List.map_cons, List.map_nil, ↓reduceIte, Option.some.injEq, Nat.reduceEqDiff, bin_lss, bin_leq, bin_gtr, bin_geq, bin_eql, bin_neq, bin_add, bin_sub, bin_mul, max2, min2, resS, resV, decide_eq_true_eq, decide_eq_false_iff_not, beq_iff_eq, true_and, and_true, or_true, true_or, exists_eq_left', Option.map_some, Option.map_none, want_some, Option.bind_some, reduceCtorEq, List.nil_append, List.append_nil, List.cons_append, Value.int.injEq, wantD_some, List.getElem?_toArray, List.getElem?_cons_succ, List.getElem?_cons_zero, decide_true, decide_false, beq_self_eq_true, wantG_true, wantG_false, Bool.not_true, Bool.not_false, Bool.false_eq_true, if_true, if_false, flat_bool, flat_int, pure_not, pure_neg]
    exact ⟨rfl, rfl⟩
  · rintro k ⟨T, h1⟩ hk ⟨rfl, h0, h4, h3⟩
    simp only at h0 h4 h3
    simp only [wk_seq, wk_block, wk_region, wkl_nil, wkl_cons, wk_cond, wkc_bool, wk_skip, wk_exit, wk_ret, ap_top, ap_seqN, ap_seqE, ap_seqR, ap_blkN, ap_blkE, ap_blkR, ap_invN, ap_invE, ap_invR, want_none, sop, wkr_some, wkr_map, wko_some, ev_tmp, ev_const, ev_func, tmps0, Tr.get_put, Tr.get_set, get_leaf, callS, evs, List.map_cons, List.map_nil, ↓reduceIte, Option.some.injEq, Nat.reduceEqDiff, bin_lss, bin_leq, bin_gtr, bin_geq, bin_eql, bin_neq, bin_add, bin_sub, bin_mul, max2, min2, resS, resV, decide_eq_true_eq, decide_eq_false_iff_not, beq_iff_eq, true_and, and_true, or_true, true_or, exists_eq_left', Option.map_some, Option.map_none, want_some, Option.bind_some, reduceCtorEq, List.nil_append, List.append_nil, List.cons_append, Value.int.injEq, wantD_some, List.getElem?_toArray, List.getElem?_cons_succ, List.getElem?_cons_zero, decide_true, decide_false, beq_self_eq_true, wantG_true, wantG_false, Bool.not_true, Bool.not_false, Bool.false_eq_true, if_true, if_false, flat_bool, flat_int, pure_not, pure_neg, h0, h4, h3, hv.len Tryd.underlying28]
    refine ⟨fun hlt => ?_, fun hge => ?_⟩
    · have hlt' : k < l.length := by omega
      have hx : l[k]? = some l[k] := List.getElem?_eq_getElem hlt'
      have htk := satBy_fold hx
      generalize l[k] = x at hx htk
      obtain ⟨p, hp1, hp2⟩ := hv.idx Tryd.underlying28 sz3 agg3 hx (kd := .i64)
      have hacc := satTimes_range (l.take k)
      simp only [wk_seq, wk_block, wk_region, wkl_nil, wkl_cons, wk_cond, wkc_bool, wk_skip, wk_exit, wk_ret, ap_top, ap_seqN, ap_seqE, ap_seqR, ap_blkN, ap_blkE, ap_blkR, ap_invN, ap_invE, ap_invR, want_none, sop, wkr_some, wkr_map, wko_some, ev_tmp, ev_const, ev_func, tmps0, Tr.get_put, Tr.get_set, get_leaf, callS, evs, List.map_cons, List.map_nil, ↓reduceIte, Option.some.injEq, Nat.reduceEqDiff, bin_lss, bin_leq, bin_gtr, bin_geq, bin_eql, bin_neq, bin_add, bin_sub, bin_mul, max2, min2, resS, resV, decide_eq_true_eq, decide_eq_false_iff_not, beq_iff_eq, true_and, and_true, or_true, true_or, exists_eq_left', Option.map_some, Option.map_none, want_some, Option.bind_some, reduceCtorEq, List.nil_append, List.append_nil, List.cons_append, Value.int.injEq, wantD_some, List.getElem?_toArray, List.getElem?_cons_succ, List.getElem?_cons_zero, decide_true, decide_false, beq_self_eq_true, wantG_true, wantG_false, Bool.not_true, Bool.not_false, Bool.false_eq_true, if_true, if_false, flat_bool, flat_int, pure_not, pure_neg, hp1, hp2, h3, h4, h0, hp]
      rw [hq]
      · simp only [wk_seq, wk_block, wk_region, wkl_nil, wkl_cons, wk_cond, wkc_bool, wk_skip, wk_exit, wk_ret, ap_top, ap_seqN, ap_seqE, ap_seqR, ap_blkN, ap_blkE, ap_blkR, ap_invN, ap_invE, ap_invR, want_none, sop, wkr_some, wkr_map, wko_some, ev_tmp, ev_const, ev_func, tmps0, Tr.get_put, Tr.get_set, get_leaf, callS, evs, List.map_cons, List.map_nil, ↓reduceIte, Option.some.injEq, Nat.reduceEqDiff, bin_lss, bin_leq, bin_gtr, bin_geq, bin_eql, bin_neq, bin_add, bin_sub, bin_mul, max2, min2, resS, resV, decide_eq_true_eq, decide_eq_false_iff_not, beq_iff_eq, true_and, and_true, or_true, true_or, exists_eq_left', Option.map_some, Option.map_none, want_some, Option.bind_some, reduceCtorEq, List.nil_append, List.append_nil, List.cons_append, Value.int.injEq, wantD_some, List.getElem?_toArray, List.getElem?_cons_succ, List.getElem?_cons_zero, decide_true, decide_false, beq_self_eq_true, wantG_true, wantG_false, Bool.not_true, Bool.not_false, Bool.false_eq_true, if_true, if_false, flat_bool, flat_int, pure_not, pure_neg, hp1, hp2, h3, h4, h0, hp]
        refine ⟨hlt', ?_, htk⟩
        rw [wrap_id (by omega) (by omega)]; rfl
      · exact hacc
      · unfold partN
        (repeat' split) <;> omega
    · have : k = l.length := by omega
      subst this
      rw [List.take_length]
end
end Go.Proofs.YtdhehcalmjcpgaaDoor
