/- MADE BY merge.py out of: SxRS0, SxRS1, SxRS2, SxRS3 -/
import Derived.Test.YtdnnjkneablfiaaGreatDoorSxL1
/- The document's least span of an operation, by the shadow reading: its parts. -/
namespace Go.Proofs.YtdnnjkneablfiaaGreatDoor
open Go Go.Sx
set_option maxRecDepth 100000
set_option linter.unusedSimpArgs false
set_option linter.unusedVariables false

/-! ### Parts of a code -/
def rt : Code → Code
  | .seq _ b => b
  | c => c
def lf : Code → Code
  | .seq a _ => a
  | c => c
def thn : Code → Code
  | .cond _ a _ => a
  | c => c
def inn : Code → Code
  | .block _ c => c
  | c => c

/-! ### A row that a number is appended to -/
def Two (m : Nat) (h : SHeap) (v : Value) (l : List Int) : Prop :=
  ∃ id, ((v = .slice (some ⟨id, 0, none⟩) l.length l.length ∧ h.get id = .row (ints l) 3 false false) ∨ (v = .slice (some ⟨id, 0, none⟩) l.length unk ∧ h.get id = .row (ints l) 3 true false)) ∧ m ≤ id ∧ id < h.next
theorem Two.at {m : Nat} {h : SHeap} {v : Value} {l : List Int} (hv : Two m h v l) : ∃ id c g, v = .slice (some ⟨id, 0, none⟩) l.length c ∧ h.get id = .row (ints l) 3 g false ∧ m ≤ id ∧ id < h.next := by
  obtain ⟨id, h1 | h1, h2, h3⟩ := hv
  · exact ⟨id, _, _, h1.1, h1.2, h2, h3⟩
  · exact ⟨id, _, _, h1.1, h1.2, h2, h3⟩
theorem one_build {h : SHeap} {x : Int} : buildSliceS Tryz.prog h 34 1 [(0, .int .i64 x)] = some (.slice (some ⟨h.next, 0, none⟩) 1 1, h.push (.row [.int .i64 x] 3 false false)) := by
  have e5 : (Value.int .i64 0).cells = #[.int .i64 0] := rfl
  have e6 : (Value.int .i64 x).cells = #[.int .i64 x] := rfl
  simp [buildSliceS, Tryz.underlying34, sz3, zero3, flat, flat1, e5, e6, fillS, zeros, Go.Sx.lay]
theorem two_append {m : Nat} {h : SHeap} {v : Value} {l : List Int} {x : Int} (hv : Two m h v l) (hf : h.floor ≤ m) (hl : l.length < 1000) :
    ∃ v' h', appendS Tryz.prog (h.push (.row [.int .i64 x] 3 false false)) 34 v (.slice (some ⟨h.next, 0, none⟩) 1 1) = some (v', h') ∧ Two m h' v' (l ++ [x]) ∧ h'.floor = h.floor ∧ h.next ≤ h'.next ∧ ∀ i, i < m → h'.get i = h.get i := by
  have hnew : (h.push (.row [.int .i64 x] 3 false false)).get h.next = .row [.int .i64 x] 3 false false := get_push_new
  have hold : ∀ i, i < h.next → (h.push (.row [.int .i64 x] 3 false false)).get i = h.get i := fun i hi => get_push_old hi
  have hfl1 : (h.push (.row [.int .i64 x] 3 false false)).floor = h.floor := rfl
  have hnx1 : (h.push (.row [.int .i64 x] 3 false false)).next = h.next + 1 := rfl
  generalize h.push (.row [.int .i64 x] 3 false false) = h1 at *
  have hsrc : srcCells h1 1 1 (.slice (some ⟨h.next, 0, none⟩) 1 1) = some [.int .i64 x] := by
    simp [srcCells, hnew, cut]
  have hz : (Value.int .i64 0).cells.size = 1 := rfl
  have hone : ([Value.int .i64 x] : List Value).all one = true := rfl
  have hcut : cut (ints l) 0 (l.length * 1) = some (ints l) := by
    simp [cut, ints]
    exact List.take_of_length_le (by simp)
  have hi : ints l ++ [.int .i64 x] = ints (l ++ [x]) := by simp [ints]
  have e1 : (l.length + 1) * 8 ≤ 140737488355328 := by omega
  have e2 : l.length + 1 ≤ 140737488355328 := by omega
  obtain ⟨id, ⟨rfl, hg⟩ | ⟨rfl, hg⟩, hm, hidn⟩ := hv
  · have hu : l.length ≠ unk := by unfold unk; omega
    have hsl : srcCells h1 1 l.length (.slice (some ⟨id, 0, none⟩) l.length l.length) = some (ints l) := by
      by_cases h0 : l.length = 0
      · have : l = [] := List.length_eq_zero_iff.1 h0
        subst this
        rfl
      · simp only [srcCells, h0, if_false, hold id hidn, hg, hcut]
    refine ⟨.slice (some ⟨h1.next, 0, none⟩) (l.length + 1) unk, h1.push (.row (ints l ++ [.int .i64 x]) 3 true false), ?_, ⟨h1.next, .inr ⟨by simp, by rw [get_push_new, hi]⟩, by omega, by show h1.next < h1.next + 1; omega⟩, hfl1, by show h.next ≤ h1.next + 1; omega, fun i hi' => by rw [get_push_old (by omega), hold i (by omega)]⟩
    have e3 : ¬ (l.length + 1 ≤ l.length) := by omega
    have e4 : l.length * 8 ≤ 140737488355328 := by omega
    have e5 : l.length ≤ 140737488355328 := by omega
    simp only [appendS, Tryz.underlying34, sz3, by3, zero3, hz, hsrc, hone, hu, hsl, e1, e2, e3, e4, e5, decide_true, Bool.and_self, beq_self_eq_true, Nat.zero_lt_one, Nat.le_refl, if_true, if_false]
  · have e3 : h1.floor ≤ id := by omega
    have e4 : l.length ≤ unk := by unfold unk; omega
    have hg1 : h1.get id = .row (ints l) 3 true false := by rw [hold id hidn]; exact hg
    refine ⟨.slice (some ⟨h1.next, 0, none⟩) (l.length + 1) unk, (h1.put id .dead).push (.row (ints l ++ [.int .i64 x]) 3 true false), ?_, ⟨h1.next, .inr ⟨by simp, by rw [hi]; exact get_push_new⟩, by omega, by show h1.next < h1.next + 1; omega⟩, hfl1, by show h.next ≤ h1.next + 1; omega, fun i hi' => ?_⟩
    · have e5 : (h1.put id .dead).next = h1.next := rfl
      simp only [appendS, Tryz.underlying34, sz3, by3, zero3, hz, hsrc, hone, e1, e2, e3, e4, hg1, hcut, ints_one, decide_true, Bool.and_self, beq_self_eq_true, Nat.zero_lt_one, if_true, Nat.one_ne_zero, if_false]
    · rw [get_push_old (by show i < h1.next; omega), get_put_ne (by omega) (by omega), hold i (by omega)]

/-! ### Lists, one more at a time -/
theorem rowOf_take {F : Int → Int → Int} {x : Int} {ys : List Int} {j : Nat} {y : Int} {o : Int × Int} (hy : ys[j]? = some y) :
    chain o (rowOf F x (ys.take (j + 1))) = joinN (chain o (rowOf F x (ys.take j))).1 (chain o (rowOf F x (ys.take j))).2 (clampN (F x y)) (clampN (F x y)) := by
  have e : rowOf F x (ys.take (j + 1)) = rowOf F x (ys.take j) ++ [clampN (F x y)] := by
    unfold rowOf
    rw [List.take_add_one, hy, List.map_append]
    rfl
  rw [e, chain_append]
  rfl
theorem valsOf_take {F : Int → Int → Int} {xs ys : List Int} {i : Nat} {x : Int} {o : Int × Int} (hx : xs[i]? = some x) :
    chain o (valsOf F (xs.take (i + 1)) ys) = chain (chain o (valsOf F (xs.take i) ys)) (rowOf F x ys) := by
  have e : valsOf F (xs.take (i + 1)) ys = valsOf F (xs.take i) ys ++ rowOf F x ys := by
    unfold valsOf
    rw [List.take_add_one, hx, List.flatMap_append]
    simp
  rw [e, chain_append]

/-! ### The loop over both -/
noncomputable def t9 : Code := rt (rt (rt (rt (rt (rt (rt (Tryz.f9.body.getD .skip)))))))
noncomputable def loop9 : Code := inn (rt (lf (rt t9)))
section
variable {call : SCall} {n : Nat}
/-- What the words hold while the numbers are gone through: s what is told so far, l the second span's numbers. -/
def Inv9 (kind B1 B2 A1 A2 : Int) (st : St) (l : List Int) (s : Int × Int) : Prop :=
  st.h.floor = 0 ∧ 7 ≤ st.h.next ∧ st.h.get 2 = .row [.int .i64 B1, .int .i64 B2] 23 false false ∧ st.h.get 3 = .row [.int .i64 0, .int .i64 0] 23 false false ∧ st.h.get 4 = .row [.int .i64 s.1, .int .i64 s.2] 23 false false ∧
    st.h.get 5 = .row (ints [A1, A2]) 3 false false ∧ Two 6 st.h (st.T.get 9) l ∧ st.T.get 0 = .int .i64 kind ∧ st.T.get 5 = .pointer (some ⟨2, 0, none⟩) ∧ st.T.get 6 = .pointer (some ⟨3, 0, none⟩) ∧ st.T.get 7 = .pointer (some ⟨4, 0, none⟩) ∧ st.T.get 8 = .slice (some ⟨5, 0, none⟩) 2 2

set_option maxHeartbeats 8000000 in
theorem loop9_walk (hsn : SnxOK call) (hN : 10 < n) {kind B1 B2 A1 A2 : Int} {ys : List Int} (hrx : ∀ x ∈ [A1, A2], -1073741824 ≤ x ∧ x ≤ 1073741824) (hry : ∀ y ∈ ys, -1073741824 ≤ y ∧ y ≤ 1073741824)
    (h35 : ∀ x y h, (-4611686018427387904 ≤ x ∧ x ≤ 4611686018427387904) → I64 y → call 35 [.int .i64 kind, .int .i64 x, .int .i64 y] h = some (.int .i64 (oneW kind x y), h))
    (h34 : ∀ a b x h, call 34 [spanV a b, .int .i64 x] h = some (spanV (joinN a b (clampN x) (clampN x)).1 (joinN a b (clampN x) (clampN x)).2, h))
    {T : Tr} {h : SHeap} {s : Int × Int} {k : Kont} (hl : ys.length < 8) (hI : Inv9 kind B1 B2 A1 A2 ⟨T, h⟩ ys s) (t10 : T.get 10 = .int .i64 0)
    (hk : ∀ T' h', T'.get 6 = .pointer (some ⟨3, 0, none⟩) → T'.get 7 = .pointer (some ⟨4, 0, none⟩) → h'.floor = 0 → 7 ≤ h'.next → h'.get 3 = .row [.int .i64 0, .int .i64 0] 23 false false →
      h'.get 4 = .row [.int .i64 (chain s (valsOf (oneW kind) [A1, A2] ys)).1, .int .i64 (chain s (valsOf (oneW kind) [A1, A2] ys)).2] 23 false false → k.ap Tryz.prog call n (.exit 0) ⟨T', h'⟩) :
    WK Tryz.prog call n loop9 ⟨T, h⟩ k := by
  obtain ⟨hfl, hnx, g2, g3, g4, g5, hy0, t0, t5, t6, t7, t8⟩ := hI
  obtain ⟨id, c, gg, t9v, gy, hid, hidn⟩ := hy0.at
  simp only at hfl hnx g2 g3 g4 g5 t9v gy hidn t0 t5 t6 t7 t8
  refine WK.loop (fun i s' => s'.h.floor = 0 ∧ s'.h.next = h.next ∧ s'.h.get 3 = .row [.int .i64 0, .int .i64 0] 23 false false ∧ s'.h.get 5 = .row (ints [A1, A2]) 3 false false ∧ s'.h.get id = .row (ints ys) 3 gg false ∧
    s'.h.get 4 = .row [.int .i64 (chain s (valsOf (oneW kind) ([A1, A2].take i) ys)).1, .int .i64 (chain s (valsOf (oneW kind) ([A1, A2].take i) ys)).2] 23 false false ∧
    s'.T.get 0 = .int .i64 kind ∧ s'.T.get 6 = .pointer (some ⟨3, 0, none⟩) ∧ s'.T.get 7 = .pointer (some ⟨4, 0, none⟩) ∧ s'.T.get 8 = .slice (some ⟨5, 0, none⟩) 2 2 ∧ s'.T.get 9 = .slice (some ⟨id, 0, none⟩) ys.length c ∧ s'.T.get 10 = .int .i64 i) 2 (by omega) ?_ ?_
  · exact ⟨hfl, rfl, g3, g5, gy, g4, t0, t6, t7, t8, t9v, t10⟩
  · rintro i ⟨T1, h1⟩ hi ⟨i1, i2, f3, f5, fy, f4, u0, u6, u7, u8, u9, u10⟩
    simp only at i1 i2 f3 f5 fy f4 u0 u6 u7 u8 u9 u10
    generalize ho : chain s (valsOf (oneW kind) ([A1, A2].take i) ys) = o at f4
    by_cases hlt : i < 2
    · have c1 : decide ((i : Int) < 2) = true := by simp; omega
      obtain ⟨x, hx⟩ : ∃ x, [A1, A2][i]? = some x := ⟨_, List.getElem?_eq_getElem (by simpa using hlt)⟩
      have hxr := hrx x (List.mem_of_getElem? hx)
      obtain ⟨p, hp1, hp2⟩ := (row_ints (c := 2) f5).idx Tryz.underlying34 sz3 agg3 hx (kd := .i64)
      have hp1' : idxAddr Tryz.prog 34 (.slice (some ⟨5, 0, none⟩) 2 2) (.int .i64 (i : Int)) = some p := hp1
      simp only [wk_seq, wk_block, wk_region, wkl_nil, wkl_cons, wk_cond, wkc_bool, wk_skip, wk_exit, wk_ret, ap_top, ap_seqN, ap_seqE, ap_seqR, ap_blkN, ap_blkE, ap_blkR, ap_invN, ap_invE, ap_invR, want_none, sop, wkr_some, wkr_map, wko_some, ev_tmp, ev_const, ev_func, tmps0, Tr.get_put, Tr.get_set, get_leaf, callS, evs, List.map_cons, List.map_nil, ↓reduceIte, Option.some.injEq, Nat.reduceEqDiff, bin_lss, bin_leq, bin_gtr, bin_geq, bin_eql, bin_neq, bin_add, bin_sub, bin_mul, max2, min2, resS, resV, decide_eq_true_eq, decide_eq_false_iff_not, beq_iff_eq, true_and, and_true, or_true, true_or, exists_eq_left', Option.map_some, Option.map_none, want_some, Option.bind_some, reduceCtorEq, List.nil_append, List.append_nil, List.cons_append, Value.int.injEq, wantD_some, List.getElem?_toArray, List.getElem?_cons_succ, List.getElem?_cons_zero, decide_true, decide_false, beq_self_eq_true, wantG_true, wantG_false, Bool.not_true, Bool.not_false, Bool.false_eq_true, if_true, if_false, flat_bool, flat_int, pure_not, pure_neg, ↓wk_tt, ↓wk_ff, false_implies, true_implies, wantG_undef, cells_agg, all2_one, sz23, push_next, push_floor, put_next, put_floor, dead_next, dead_floor, zero23, flat_span, field_lo, field_hi, ld23_eq, ld3_eq, st23_eq, get_push', get_put', ld23_row, ld3_0, ld3_1, st23_row, build_span, build_lo, build_none, Nat.reduceAdd, Nat.reduceLT, Nat.zero_le, exists_eq_left', List.map_cons, fl_fl, fl_self, u0, u6, u7, u8, u9, u10, c1]
      refine WK.loop (fun j s' => s'.h.floor = 0 ∧ s'.h.next = h.next ∧ s'.h.get 3 = .row [.int .i64 0, .int .i64 0] 23 false false ∧ s'.h.get 5 = .row (ints [A1, A2]) 3 false false ∧ s'.h.get id = .row (ints ys) 3 gg false ∧
        s'.h.get 4 = .row [.int .i64 (chain o (rowOf (oneW kind) x (ys.take j))).1, .int .i64 (chain o (rowOf (oneW kind) x (ys.take j))).2] 23 false false ∧
        s'.T.get 0 = .int .i64 kind ∧ s'.T.get 6 = .pointer (some ⟨3, 0, none⟩) ∧ s'.T.get 7 = .pointer (some ⟨4, 0, none⟩) ∧ s'.T.get 8 = .slice (some ⟨5, 0, none⟩) 2 2 ∧ s'.T.get 9 = .slice (some ⟨id, 0, none⟩) ys.length c ∧ s'.T.get 10 = .int .i64 i ∧ s'.T.get 11 = .int .i64 j) ys.length (by omega) ?_ ?_
      · simp only [wk_seq, wk_block, wk_region, wkl_nil, wkl_cons, wk_cond, wkc_bool, wk_skip, wk_exit, wk_ret, ap_top, ap_seqN, ap_seqE, ap_seqR, ap_blkN, ap_blkE, ap_blkR, ap_invN, ap_invE, ap_invR, want_none, sop, wkr_some, wkr_map, wko_some, ev_tmp, ev_const, ev_func, tmps0, Tr.get_put, Tr.get_set, get_leaf, callS, evs, List.map_cons, List.map_nil, ↓reduceIte, Option.some.injEq, Nat.reduceEqDiff, bin_lss, bin_leq, bin_gtr, bin_geq, bin_eql, bin_neq, bin_add, bin_sub, bin_mul, max2, min2, resS, resV, decide_eq_true_eq, decide_eq_false_iff_not, beq_iff_eq, true_and, and_true, or_true, true_or, exists_eq_left', Option.map_some, Option.map_none, want_some, Option.bind_some, reduceCtorEq, List.nil_append, List.append_nil, List.cons_append, Value.int.injEq, wantD_some, List.getElem?_toArray, List.getElem?_cons_succ, List.getElem?_cons_zero, decide_true, decide_false, beq_self_eq_true, wantG_true, wantG_false, Bool.not_true, Bool.not_false, Bool.false_eq_true, if_true, if_false, flat_bool, flat_int, pure_not, pure_neg, ↓wk_tt, ↓wk_ff, false_implies, true_implies, wantG_undef, cells_agg, all2_one, sz23, push_next, push_floor, put_next, put_floor, dead_next, dead_floor, zero23, flat_span, field_lo, field_hi, ld23_eq, ld3_eq, st23_eq, get_push', get_put', ld23_row, ld3_0, ld3_1, st23_row, build_span, build_lo, build_none, Nat.reduceAdd, Nat.reduceLT, Nat.zero_le, exists_eq_left', List.map_cons, fl_fl, fl_self, u0, u6, u7, u8, u9, u10]
        exact ⟨i1, i2, f3, f5, fy, f4, rfl⟩
      · rintro j ⟨T2, h2⟩ hj ⟨j1, j2, q3, q5, qy, q4, w0, w6, w7, w8, w9, w10, w11⟩
        simp only at j1 j2 q3 q5 qy q4 w0 w6 w7 w8 w9 w10 w11
        generalize hq : chain o (rowOf (oneW kind) x (ys.take j)) = q at q4
        by_cases hjlt : j < ys.length
        · have c2 : decide ((j : Int) < (ys.length : Int)) = true := by simp only [decide_eq_true_eq]; omega
          obtain ⟨y, hy⟩ : ∃ y, ys[j]? = some y := ⟨_, List.getElem?_eq_getElem hjlt⟩
          have hyr := hry y (List.mem_of_getElem? hy)
          have hst := rowOf_take (F := oneW kind) (x := x) (o := o) hy
          rw [hq] at hst
          obtain ⟨p1, hp3, hp4⟩ := (row_ints (c := 2) q5).idx Tryz.underlying34 sz3 agg3 hx (kd := .i64)
          have hp3' : idxAddr Tryz.prog 34 (.slice (some ⟨5, 0, none⟩) 2 2) (.int .i64 (i : Int)) = some p1 := hp3
          obtain ⟨p2, hp5, hp6⟩ := (row_ints (c := c) qy).idx Tryz.underlying34 sz3 agg3 hy (kd := .i64)
          have h35' := fun hh => h35 x y hh (by omega) (by unfold I64; omega)
          have w5 : IntKind.i64.wrap ((j : Int) + 1) = ((j + 1 : Nat) : Int) := wrap_id (by omega) (by omega)
          have n4 : (4 < h2.next) = True := by simp; omega
          simp only [wk_seq, wk_block, wk_region, wkl_nil, wkl_cons, wk_cond, wkc_bool, wk_skip, wk_exit, wk_ret, ap_top, ap_seqN, ap_seqE, ap_seqR, ap_blkN, ap_blkE, ap_blkR, ap_invN, ap_invE, ap_invR, want_none, sop, wkr_some, wkr_map, wko_some, ev_tmp, ev_const, ev_func, tmps0, Tr.get_put, Tr.get_set, get_leaf, callS, evs, List.map_cons, List.map_nil, ↓reduceIte, Option.some.injEq, Nat.reduceEqDiff, bin_lss, bin_leq, bin_gtr, bin_geq, bin_eql, bin_neq, bin_add, bin_sub, bin_mul, max2, min2, resS, resV, decide_eq_true_eq, decide_eq_false_iff_not, beq_iff_eq, true_and, and_true, or_true, true_or, exists_eq_left', Option.map_some, Option.map_none, want_some, Option.bind_some, reduceCtorEq, List.nil_append, List.append_nil, List.cons_append, Value.int.injEq, wantD_some, List.getElem?_toArray, List.getElem?_cons_succ, List.getElem?_cons_zero, decide_true, decide_false, beq_self_eq_true, wantG_true, wantG_false, Bool.not_true, Bool.not_false, Bool.false_eq_true, if_true, if_false, flat_bool, flat_int, pure_not, pure_neg, ↓wk_tt, ↓wk_ff, false_implies, true_implies, wantG_undef, cells_agg, all2_one, sz23, push_next, push_floor, put_next, put_floor, dead_next, dead_floor, zero23, flat_span, field_lo, field_hi, ld23_eq, ld3_eq, st23_eq, get_push', get_put', ld23_row, ld3_0, ld3_1, st23_row, build_span, build_lo, build_none, Nat.reduceAdd, Nat.reduceLT, Nat.zero_le, exists_eq_left', List.map_cons, fl_fl, fl_self, len34, w0, w6, w7, w8, w9, w10, w11, c2]
          refine WK.flags (fs := [(true, true, []), (false, true, [.tmp 7]), (false, true, [.tmp 7]), (false, true, [.tmp 7]), (false, true, [.tmp 7]), (false, true, [.tmp 7]), (false, true, [.tmp 7, .tmp 82]), (false, true, [.tmp 7, .tmp 82]), (false, true, [.tmp 7, .tmp 82]), (false, true, [.tmp 7, .tmp 82]), (false, true, [.tmp 7]), (false, false, []), (false, false, [])]) (by kernel_rfl) ?_
          have hfl0 : h2.fl 0 = h2 := by have := fl_self (h := h2); rw [j1] at this; exact this
          iterate 13 (refine WKF.cons (fun v h' hh hs => (sop_snx hsn hs).floor) ?_; simp only [wk_seq, wk_block, wk_region, wkl_nil, wkl_cons, wk_cond, wkc_bool, wk_skip, wk_exit, wk_ret, ap_top, ap_seqN, ap_seqE, ap_seqR, ap_blkN, ap_blkE, ap_blkR, ap_invN, ap_invE, ap_invR, want_none, sop, wkr_some, wkr_map, wko_some, ev_tmp, ev_const, ev_func, tmps0, Tr.get_put, Tr.get_set, get_leaf, callS, evs, List.map_cons, List.map_nil, ↓reduceIte, Option.some.injEq, Nat.reduceEqDiff, bin_lss, bin_leq, bin_gtr, bin_geq, bin_eql, bin_neq, bin_add, bin_sub, bin_mul, max2, min2, resS, resV, decide_eq_true_eq, decide_eq_false_iff_not, beq_iff_eq, true_and, and_true, or_true, true_or, exists_eq_left', Option.map_some, Option.map_none, want_some, Option.bind_some, reduceCtorEq, List.nil_append, List.append_nil, List.cons_append, Value.int.injEq, wantD_some, List.getElem?_toArray, List.getElem?_cons_succ, List.getElem?_cons_zero, decide_true, decide_false, beq_self_eq_true, wantG_true, wantG_false, Bool.not_true, Bool.not_false, Bool.false_eq_true, if_true, if_false, flat_bool, flat_int, pure_not, pure_neg, ↓wk_tt, ↓wk_ff, false_implies, true_implies, wantG_undef, cells_agg, all2_one, sz23, push_next, push_floor, put_next, put_floor, dead_next, dead_floor, zero23, flat_span, field_lo, field_hi, ld23_eq, ld3_eq, st23_eq, get_push', get_put', ld23_row, ld3_0, ld3_1, st23_row, build_span, build_lo, build_none, Nat.reduceAdd, Nat.reduceLT, Nat.zero_le, exists_eq_left', List.map_cons, fl_fl, fl_self, WKFC, clsOf, notMap, wkfr_some, wkf_nil, ahead_ptr, fl_pushE, fl_putE, fl_dead, List.all_nil, len34, w0, w6, w7, w8, w9, w10, w11, q4, hp3', hp4, hp5, hp6, h35', h34, j1, hfl0, n4, Nat.reduceLeDiff])
          exact ⟨hjlt, j2, q3, q5, by rw [if_neg (by omega)]; exact qy, by rw [hst], w5⟩
        · have c2 : decide ((j : Int) < (ys.length : Int)) = false := by simp only [decide_eq_false_iff_not]; omega
          have hjl : j = ys.length := by omega
          rw [hjl, List.take_length] at hq
          have w4 : IntKind.i64.wrap ((i : Int) + 1) = ((i + 1 : Nat) : Int) := wrap_id (by omega) (by omega)
          simp only [wk_seq, wk_block, wk_region, wkl_nil, wkl_cons, wk_cond, wkc_bool, wk_skip, wk_exit, wk_ret, ap_top, ap_seqN, ap_seqE, ap_seqR, ap_blkN, ap_blkE, ap_blkR, ap_invN, ap_invE, ap_invR, want_none, sop, wkr_some, wkr_map, wko_some, ev_tmp, ev_const, ev_func, tmps0, Tr.get_put, Tr.get_set, get_leaf, callS, evs, List.map_cons, List.map_nil, ↓reduceIte, Option.some.injEq, Nat.reduceEqDiff, bin_lss, bin_leq, bin_gtr, bin_geq, bin_eql, bin_neq, bin_add, bin_sub, bin_mul, max2, min2, resS, resV, decide_eq_true_eq, decide_eq_false_iff_not, beq_iff_eq, true_and, and_true, or_true, true_or, exists_eq_left', Option.map_some, Option.map_none, want_some, Option.bind_some, reduceCtorEq, List.nil_append, List.append_nil, List.cons_append, Value.int.injEq, wantD_some, List.getElem?_toArray, List.getElem?_cons_succ, List.getElem?_cons_zero, decide_true, decide_false, beq_self_eq_true, wantG_true, wantG_false, Bool.not_true, Bool.not_false, Bool.false_eq_true, if_true, if_false, flat_bool, flat_int, pure_not, pure_neg, ↓wk_tt, ↓wk_ff, false_implies, true_implies, wantG_undef, cells_agg, all2_one, sz23, push_next, push_floor, put_next, put_floor, dead_next, dead_floor, zero23, flat_span, field_lo, field_hi, ld23_eq, ld3_eq, st23_eq, get_push', get_put', ld23_row, ld3_0, ld3_1, st23_row, build_span, build_lo, build_none, Nat.reduceAdd, Nat.reduceLT, Nat.zero_le, exists_eq_left', List.map_cons, fl_fl, fl_self, len34, w0, w6, w7, w8, w9, w10, w11, c2, w4]
          have hst := valsOf_take (F := oneW kind) (ys := ys) (o := s) hx
          rw [ho, hq] at hst
          exact ⟨hlt, j1, j2, q3, q5, qy, by rw [hst]; exact q4⟩
    · have c1 : decide ((i : Int) < 2) = false := by simp; omega
      have hk2 : i = 2 := by omega
      subst hk2
      have ho2 : chain s (valsOf (oneW kind) [A1, A2] ys) = o := ho
      simp only [wk_seq, wk_block, wk_region, wkl_nil, wkl_cons, wk_cond, wkc_bool, wk_skip, wk_exit, wk_ret, ap_top, ap_seqN, ap_seqE, ap_seqR, ap_blkN, ap_blkE, ap_blkR, ap_invN, ap_invE, ap_invR, want_none, sop, wkr_some, wkr_map, wko_some, ev_tmp, ev_const, ev_func, tmps0, Tr.get_put, Tr.get_set, get_leaf, callS, evs, List.map_cons, List.map_nil, ↓reduceIte, Option.some.injEq, Nat.reduceEqDiff, bin_lss, bin_leq, bin_gtr, bin_geq, bin_eql, bin_neq, bin_add, bin_sub, bin_mul, max2, min2, resS, resV, decide_eq_true_eq, decide_eq_false_iff_not, beq_iff_eq, true_and, and_true, or_true, true_or, exists_eq_left', Option.map_some, Option.map_none, want_some, Option.bind_some, reduceCtorEq, List.nil_append, List.append_nil, List.cons_append, Value.int.injEq, wantD_some, List.getElem?_toArray, List.getElem?_cons_succ, List.getElem?_cons_zero, decide_true, decide_false, beq_self_eq_true, wantG_true, wantG_false, Bool.not_true, Bool.not_false, Bool.false_eq_true, if_true, if_false, flat_bool, flat_int, pure_not, pure_neg, ↓wk_tt, ↓wk_ff, false_implies, true_implies, wantG_undef, cells_agg, all2_one, sz23, push_next, push_floor, put_next, put_floor, dead_next, dead_floor, zero23, flat_span, field_lo, field_hi, ld23_eq, ld3_eq, st23_eq, get_push', get_put', ld23_row, ld3_0, ld3_1, st23_row, build_span, build_lo, build_none, Nat.reduceAdd, Nat.reduceLT, Nat.zero_le, exists_eq_left', List.map_cons, fl_fl, fl_self, u0, u6, u7, u8, u9, u10, c1]
      refine hk _ _ ?_ ?_ i1 (by omega) f3 (by rw [ho2]; exact f4)
      · simp only [wk_seq, wk_block, wk_region, wkl_nil, wkl_cons, wk_cond, wkc_bool, wk_skip, wk_exit, wk_ret, ap_top, ap_seqN, ap_seqE, ap_seqR, ap_blkN, ap_blkE, ap_blkR, ap_invN, ap_invE, ap_invR, want_none, sop, wkr_some, wkr_map, wko_some, ev_tmp, ev_const, ev_func, tmps0, Tr.get_put, Tr.get_set, get_leaf, callS, evs, List.map_cons, List.map_nil, ↓reduceIte, Option.some.injEq, Nat.reduceEqDiff, bin_lss, bin_leq, bin_gtr, bin_geq, bin_eql, bin_neq, bin_add, bin_sub, bin_mul, max2, min2, resS, resV, decide_eq_true_eq, decide_eq_false_iff_not, beq_iff_eq, true_and, and_true, or_true, true_or, exists_eq_left', Option.map_some, Option.map_none, want_some, Option.bind_some, reduceCtorEq, List.nil_append, List.append_nil, List.cons_append, Value.int.injEq, wantD_some, List.getElem?_toArray, List.getElem?_cons_succ, List.getElem?_cons_zero, decide_true, decide_false, beq_self_eq_true, wantG_true, wantG_false, Bool.not_true, Bool.not_false, Bool.false_eq_true, if_true, if_false, flat_bool, flat_int, pure_not, pure_neg, ↓wk_tt, ↓wk_ff, false_implies, true_implies, wantG_undef, cells_agg, all2_one, sz23, push_next, push_floor, put_next, put_floor, dead_next, dead_floor, zero23, flat_span, field_lo, field_hi, ld23_eq, ld3_eq, st23_eq, get_push', get_put', ld23_row, ld3_0, ld3_1, st23_row, build_span, build_lo, build_none, Nat.reduceAdd, Nat.reduceLT, Nat.zero_le, exists_eq_left', List.map_cons, fl_fl, fl_self, u6]
      · simp only [wk_seq, wk_block, wk_region, wkl_nil, wkl_cons, wk_cond, wkc_bool, wk_skip, wk_exit, wk_ret, ap_top, ap_seqN, ap_seqE, ap_seqR, ap_blkN, ap_blkE, ap_blkR, ap_invN, ap_invE, ap_invR, want_none, sop, wkr_some, wkr_map, wko_some, ev_tmp, ev_const, ev_func, tmps0, Tr.get_put, Tr.get_set, get_leaf, callS, evs, List.map_cons, List.map_nil, ↓reduceIte, Option.some.injEq, Nat.reduceEqDiff, bin_lss, bin_leq, bin_gtr, bin_geq, bin_eql, bin_neq, bin_add, bin_sub, bin_mul, max2, min2, resS, resV, decide_eq_true_eq, decide_eq_false_iff_not, beq_iff_eq, true_and, and_true, or_true, true_or, exists_eq_left', Option.map_some, Option.map_none, want_some, Option.bind_some, reduceCtorEq, List.nil_append, List.append_nil, List.cons_append, Value.int.injEq, wantD_some, List.getElem?_toArray, List.getElem?_cons_succ, List.getElem?_cons_zero, decide_true, decide_false, beq_self_eq_true, wantG_true, wantG_false, Bool.not_true, Bool.not_false, Bool.false_eq_true, if_true, if_false, flat_bool, flat_int, pure_not, pure_neg, ↓wk_tt, ↓wk_ff, false_implies, true_implies, wantG_undef, cells_agg, all2_one, sz23, push_next, push_floor, put_next, put_floor, dead_next, dead_floor, zero23, flat_span, field_lo, field_hi, ld23_eq, ld3_eq, st23_eq, get_push', get_put', ld23_row, ld3_0, ld3_1, st23_row, build_span, build_lo, build_none, Nat.reduceAdd, Nat.reduceLT, Nat.zero_le, exists_eq_left', List.map_cons, fl_fl, fl_self, u7]
end
end Go.Proofs.YtdnnjkneablfiaaGreatDoor

/- The document's least span of an operation, walked. -/
namespace Go.Proofs.YtdnnjkneablfiaaGreatDoor
open Go Go.Sx
set_option maxRecDepth 100000
set_option linter.unusedSimpArgs false
set_option linter.unusedVariables false

noncomputable def b9 : Code := thn (rt (lf t9))
noncomputable def s9a : Code := lf b9
noncomputable def s9b : Code := lf (rt b9)
noncomputable def s9c : Code := rt (rt b9)
def opt (b : Bool) (x : Int) : List Int := if b = true then [x] else []

theorem Two.put {h : SHeap} {v : Value} {l : List Int} {o : SObj} (hv : Two 6 h v l) : Two 6 (h.put 4 o) v l := by
  obtain ⟨id, h1, h2, h3⟩ := hv
  have e : (h.put 4 o).get id = h.get id := by rw [get_put', if_neg (by omega)]
  exact ⟨id, by rw [e]; exact h1, h2, h3⟩

section
variable {call : SCall} {n : Nat} {kind B1 B2 A1 A2 : Int} {T : Tr} {h : SHeap} {s : Int × Int} {l : List Int} {k : Kont}
set_option maxHeartbeats 8000000 in
theorem s9a_walk (h34 : ∀ a b x h, call 34 [spanV a b, .int .i64 x] h = some (spanV (joinN a b (clampN x) (clampN x)).1 (joinN a b (clampN x) (clampN x)).2, h)) (hI : Inv9 kind B1 B2 A1 A2 ⟨T, h⟩ l s)
    (hk : ∀ st', Inv9 kind B1 B2 A1 A2 st' l (chain s (opt (within B1 B2 0) (clampN 0))) → k.ap Tryz.prog call n .normal st') : WK Tryz.prog call n s9a ⟨T, h⟩ k := by
  obtain ⟨hfl, hnx, g2, g3, g4, g5, hy0, t0, t5, t6, t7, t8⟩ := hI
  simp only at hfl hnx g2 g3 g4 g5 hy0 t0 t5 t6 t7 t8
  have n4 : (4 < h.next) = True := by simp; omega
  show WK _ _ _ (.seq _ _) _ _
  cases d1 : decide (B1 ≤ 0) with
  | false =>
    simp only [wk_seq, wk_block, wk_region, wkl_nil, wkl_cons, wk_cond, wkc_bool, wk_skip, wk_exit, wk_ret, ap_top, ap_seqN, ap_seqE, ap_seqR, ap_blkN, ap_blkE, ap_blkR, ap_invN, ap_invE, ap_invR, want_none, sop, wkr_some, wkr_map, wko_some, ev_tmp, ev_const, ev_func, tmps0, Tr.get_put, Tr.get_set, get_leaf, callS, evs, List.map_cons, List.map_nil, ↓reduceIte, Option.some.injEq, Nat.reduceEqDiff, bin_lss, bin_leq, bin_gtr, bin_geq, bin_eql, bin_neq, bin_add, bin_sub, bin_mul, max2, min2, resS, resV, decide_eq_true_eq, decide_eq_false_iff_not, beq_iff_eq, true_and, and_true, or_true, true_or, exists_eq_left', Option.map_some, Option.map_none, want_some, Option.bind_some, reduceCtorEq, List.nil_append, List.append_nil, List.cons_append, Value.int.injEq, wantD_some, List.getElem?_toArray, List.getElem?_cons_succ, List.getElem?_cons_zero, decide_true, decide_false, beq_self_eq_true, wantG_true, wantG_false, Bool.not_true, Bool.not_false, Bool.false_eq_true, if_true, if_false, flat_bool, flat_int, pure_not, pure_neg, ↓wk_tt, ↓wk_ff, false_implies, true_implies, wantG_undef, cells_agg, all2_one, sz23, push_next, push_floor, put_next, put_floor, dead_next, dead_floor, zero23, flat_span, field_lo, field_hi, ld23_eq, ld3_eq, st23_eq, get_push', get_put', ld23_row, ld3_0, ld3_1, st23_row, build_span, build_lo, build_none, Nat.reduceAdd, Nat.reduceLT, Nat.zero_le, exists_eq_left', List.map_cons, fl_fl, fl_self, t0, t5, t6, t7, t8, g2, g4, d1]
    have hw : within B1 B2 0 = false := by unfold within; rw [show decide ((0 : Int) ≥ B1) = false from d1]; rfl
    refine hk _ ?_
    rw [hw]
    unfold Inv9
    simp only [wk_seq, wk_block, wk_region, wkl_nil, wkl_cons, wk_cond, wkc_bool, wk_skip, wk_exit, wk_ret, ap_top, ap_seqN, ap_seqE, ap_seqR, ap_blkN, ap_blkE, ap_blkR, ap_invN, ap_invE, ap_invR, want_none, sop, wkr_some, wkr_map, wko_some, ev_tmp, ev_const, ev_func, tmps0, Tr.get_put, Tr.get_set, get_leaf, callS, evs, List.map_cons, List.map_nil, ↓reduceIte, Option.some.injEq, Nat.reduceEqDiff, bin_lss, bin_leq, bin_gtr, bin_geq, bin_eql, bin_neq, bin_add, bin_sub, bin_mul, max2, min2, resS, resV, decide_eq_true_eq, decide_eq_false_iff_not, beq_iff_eq, true_and, and_true, or_true, true_or, exists_eq_left', Option.map_some, Option.map_none, want_some, Option.bind_some, reduceCtorEq, List.nil_append, List.append_nil, List.cons_append, Value.int.injEq, wantD_some, List.getElem?_toArray, List.getElem?_cons_succ, List.getElem?_cons_zero, decide_true, decide_false, beq_self_eq_true, wantG_true, wantG_false, Bool.not_true, Bool.not_false, Bool.false_eq_true, if_true, if_false, flat_bool, flat_int, pure_not, pure_neg, ↓wk_tt, ↓wk_ff, false_implies, true_implies, wantG_undef, cells_agg, all2_one, sz23, push_next, push_floor, put_next, put_floor, dead_next, dead_floor, zero23, flat_span, field_lo, field_hi, ld23_eq, ld3_eq, st23_eq, get_push', get_put', ld23_row, ld3_0, ld3_1, st23_row, build_span, build_lo, build_none, Nat.reduceAdd, Nat.reduceLT, Nat.zero_le, exists_eq_left', List.map_cons, fl_fl, fl_self, t0, t5, t6, t7, t8]
    exact ⟨hfl, hnx, g2, g3, g4, g5, hy0⟩
  | true =>
    cases d2 : decide (B2 ≥ 0) with
    | false =>
      simp only [wk_seq, wk_block, wk_region, wkl_nil, wkl_cons, wk_cond, wkc_bool, wk_skip, wk_exit, wk_ret, ap_top, ap_seqN, ap_seqE, ap_seqR, ap_blkN, ap_blkE, ap_blkR, ap_invN, ap_invE, ap_invR, want_none, sop, wkr_some, wkr_map, wko_some, ev_tmp, ev_const, ev_func, tmps0, Tr.get_put, Tr.get_set, get_leaf, callS, evs, List.map_cons, List.map_nil, ↓reduceIte, Option.some.injEq, Nat.reduceEqDiff, bin_lss, bin_leq, bin_gtr, bin_geq, bin_eql, bin_neq, bin_add, bin_sub, bin_mul, max2, min2, resS, resV, decide_eq_true_eq, decide_eq_false_iff_not, beq_iff_eq, true_and, and_true, or_true, true_or, exists_eq_left', Option.map_some, Option.map_none, want_some, Option.bind_some, reduceCtorEq, List.nil_append, List.append_nil, List.cons_append, Value.int.injEq, wantD_some, List.getElem?_toArray, List.getElem?_cons_succ, List.getElem?_cons_zero, decide_true, decide_false, beq_self_eq_true, wantG_true, wantG_false, Bool.not_true, Bool.not_false, Bool.false_eq_true, if_true, if_false, flat_bool, flat_int, pure_not, pure_neg, ↓wk_tt, ↓wk_ff, false_implies, true_implies, wantG_undef, cells_agg, all2_one, sz23, push_next, push_floor, put_next, put_floor, dead_next, dead_floor, zero23, flat_span, field_lo, field_hi, ld23_eq, ld3_eq, st23_eq, get_push', get_put', ld23_row, ld3_0, ld3_1, st23_row, build_span, build_lo, build_none, Nat.reduceAdd, Nat.reduceLT, Nat.zero_le, exists_eq_left', List.map_cons, fl_fl, fl_self, t0, t5, t6, t7, t8, g2, g4, d1, d2]
      have hw : within B1 B2 0 = false := by unfold within; rw [show decide ((0 : Int) ≤ B2) = false from d2, Bool.and_false]
      refine hk _ ?_
      rw [hw]
      unfold Inv9
      simp only [wk_seq, wk_block, wk_region, wkl_nil, wkl_cons, wk_cond, wkc_bool, wk_skip, wk_exit, wk_ret, ap_top, ap_seqN, ap_seqE, ap_seqR, ap_blkN, ap_blkE, ap_blkR, ap_invN, ap_invE, ap_invR, want_none, sop, wkr_some, wkr_map, wko_some, ev_tmp, ev_const, ev_func, tmps0, Tr.get_put, Tr.get_set, get_leaf, callS, evs, List.map_cons, List.map_nil, ↓reduceIte, Option.some.injEq, Nat.reduceEqDiff, bin_lss, bin_leq, bin_gtr, bin_geq, bin_eql, bin_neq, bin_add, bin_sub, bin_mul, max2, min2, resS, resV, decide_eq_true_eq, decide_eq_false_iff_not, beq_iff_eq, true_and, and_true, or_true, true_or, exists_eq_left', Option.map_some, Option.map_none, want_some, Option.bind_some, reduceCtorEq, List.nil_append, List.append_nil, List.cons_append, Value.int.injEq, wantD_some, List.getElem?_toArray, List.getElem?_cons_succ, List.getElem?_cons_zero, decide_true, decide_false, beq_self_eq_true, wantG_true, wantG_false, Bool.not_true, Bool.not_false, Bool.false_eq_true, if_true, if_false, flat_bool, flat_int, pure_not, pure_neg, ↓wk_tt, ↓wk_ff, false_implies, true_implies, wantG_undef, cells_agg, all2_one, sz23, push_next, push_floor, put_next, put_floor, dead_next, dead_floor, zero23, flat_span, field_lo, field_hi, ld23_eq, ld3_eq, st23_eq, get_push', get_put', ld23_row, ld3_0, ld3_1, st23_row, build_span, build_lo, build_none, Nat.reduceAdd, Nat.reduceLT, Nat.zero_le, exists_eq_left', List.map_cons, fl_fl, fl_self, t0, t5, t6, t7, t8]
      exact ⟨hfl, hnx, g2, g3, g4, g5, hy0⟩
    | true =>
      simp only [wk_seq, wk_block, wk_region, wkl_nil, wkl_cons, wk_cond, wkc_bool, wk_skip, wk_exit, wk_ret, ap_top, ap_seqN, ap_seqE, ap_seqR, ap_blkN, ap_blkE, ap_blkR, ap_invN, ap_invE, ap_invR, want_none, sop, wkr_some, wkr_map, wko_some, ev_tmp, ev_const, ev_func, tmps0, Tr.get_put, Tr.get_set, get_leaf, callS, evs, List.map_cons, List.map_nil, ↓reduceIte, Option.some.injEq, Nat.reduceEqDiff, bin_lss, bin_leq, bin_gtr, bin_geq, bin_eql, bin_neq, bin_add, bin_sub, bin_mul, max2, min2, resS, resV, decide_eq_true_eq, decide_eq_false_iff_not, beq_iff_eq, true_and, and_true, or_true, true_or, exists_eq_left', Option.map_some, Option.map_none, want_some, Option.bind_some, reduceCtorEq, List.nil_append, List.append_nil, List.cons_append, Value.int.injEq, wantD_some, List.getElem?_toArray, List.getElem?_cons_succ, List.getElem?_cons_zero, decide_true, decide_false, beq_self_eq_true, wantG_true, wantG_false, Bool.not_true, Bool.not_false, Bool.false_eq_true, if_true, if_false, flat_bool, flat_int, pure_not, pure_neg, ↓wk_tt, ↓wk_ff, false_implies, true_implies, wantG_undef, cells_agg, all2_one, sz23, push_next, push_floor, put_next, put_floor, dead_next, dead_floor, zero23, flat_span, field_lo, field_hi, ld23_eq, ld3_eq, st23_eq, get_push', get_put', ld23_row, ld3_0, ld3_1, st23_row, build_span, build_lo, build_none, Nat.reduceAdd, Nat.reduceLT, Nat.zero_le, exists_eq_left', List.map_cons, fl_fl, fl_self, t0, t5, t6, t7, t8, g2, g4, d1, d2, h34, hfl, n4]
      have hw : within B1 B2 0 = true := by unfold within; rw [show decide ((0 : Int) ≥ B1) = true from d1, show decide ((0 : Int) ≤ B2) = true from d2]; rfl
      refine hk _ ?_
      rw [hw]
      unfold Inv9
      simp only [wk_seq, wk_block, wk_region, wkl_nil, wkl_cons, wk_cond, wkc_bool, wk_skip, wk_exit, wk_ret, ap_top, ap_seqN, ap_seqE, ap_seqR, ap_blkN, ap_blkE, ap_blkR, ap_invN, ap_invE, ap_invR, want_none, sop, wkr_some, wkr_map, wko_some, ev_tmp, ev_const, ev_func, tmps0, Tr.get_put, Tr.get_set, get_leaf, callS, evs, List.map_cons, List.map_nil, ↓reduceIte, Option.some.injEq, Nat.reduceEqDiff, bin_lss, bin_leq, bin_gtr, bin_geq, bin_eql, bin_neq, bin_add, bin_sub, bin_mul, max2, min2, resS, resV, decide_eq_true_eq, decide_eq_false_iff_not, beq_iff_eq, true_and, and_true, or_true, true_or, exists_eq_left', Option.map_some, Option.map_none, want_some, Option.bind_some, reduceCtorEq, List.nil_append, List.append_nil, List.cons_append, Value.int.injEq, wantD_some, List.getElem?_toArray, List.getElem?_cons_succ, List.getElem?_cons_zero, decide_true, decide_false, beq_self_eq_true, wantG_true, wantG_false, Bool.not_true, Bool.not_false, Bool.false_eq_true, if_true, if_false, flat_bool, flat_int, pure_not, pure_neg, ↓wk_tt, ↓wk_ff, false_implies, true_implies, wantG_undef, cells_agg, all2_one, sz23, push_next, push_floor, put_next, put_floor, dead_next, dead_floor, zero23, flat_span, field_lo, field_hi, ld23_eq, ld3_eq, st23_eq, get_push', get_put', ld23_row, ld3_0, ld3_1, st23_row, build_span, build_lo, build_none, Nat.reduceAdd, Nat.reduceLT, Nat.zero_le, exists_eq_left', List.map_cons, fl_fl, fl_self, t0, t5, t6, t7, t8, n4]
      exact ⟨hfl, hnx, g2, g3, rfl, g5, hy0.put⟩
set_option maxHeartbeats 8000000 in
theorem s9b_walk (hl : l.length < 100) (hI : Inv9 kind B1 B2 A1 A2 ⟨T, h⟩ l s)
    (hk : ∀ st', Inv9 kind B1 B2 A1 A2 st' (l ++ opt (within B1 B2 1) 1) s → k.ap Tryz.prog call n .normal st') : WK Tryz.prog call n s9b ⟨T, h⟩ k := by
  obtain ⟨hfl, hnx, g2, g3, g4, g5, hy0, t0, t5, t6, t7, t8⟩ := hI
  simp only at hfl hnx g2 g3 g4 g5 hy0 t0 t5 t6 t7 t8
  obtain ⟨v', h', e1, e2, e3, e4, e5⟩ := two_append (x := 1) hy0 (by omega) (by omega)
  show WK _ _ _ (.seq _ _) _ _
  cases d1 : decide (B1 ≤ 1) with
  | false =>
    simp only [wk_seq, wk_block, wk_region, wkl_nil, wkl_cons, wk_cond, wkc_bool, wk_skip, wk_exit, wk_ret, ap_top, ap_seqN, ap_seqE, ap_seqR, ap_blkN, ap_blkE, ap_blkR, ap_invN, ap_invE, ap_invR, want_none, sop, wkr_some, wkr_map, wko_some, ev_tmp, ev_const, ev_func, tmps0, Tr.get_put, Tr.get_set, get_leaf, callS, evs, List.map_cons, List.map_nil, ↓reduceIte, Option.some.injEq, Nat.reduceEqDiff, bin_lss, bin_leq, bin_gtr, bin_geq, bin_eql, bin_neq, bin_add, bin_sub, bin_mul, max2, min2, resS, resV, decide_eq_true_eq, decide_eq_false_iff_not, beq_iff_eq, true_and, and_true, or_true, true_or, exists_eq_left', Option.map_some, Option.map_none, want_some, Option.bind_some, reduceCtorEq, List.nil_append, List.append_nil, List.cons_append, Value.int.injEq, wantD_some, List.getElem?_toArray, List.getElem?_cons_succ, List.getElem?_cons_zero, decide_true, decide_false, beq_self_eq_true, wantG_true, wantG_false, Bool.not_true, Bool.not_false, Bool.false_eq_true, if_true, if_false, flat_bool, flat_int, pure_not, pure_neg, ↓wk_tt, ↓wk_ff, false_implies, true_implies, wantG_undef, cells_agg, all2_one, sz23, push_next, push_floor, put_next, put_floor, dead_next, dead_floor, zero23, flat_span, field_lo, field_hi, ld23_eq, ld3_eq, st23_eq, get_push', get_put', ld23_row, ld3_0, ld3_1, st23_row, build_span, build_lo, build_none, Nat.reduceAdd, Nat.reduceLT, Nat.zero_le, exists_eq_left', List.map_cons, fl_fl, fl_self, t0, t5, t6, t7, t8, g2, g4, d1]
    have hw : within B1 B2 1 = false := by unfold within; rw [show decide ((1 : Int) ≥ B1) = false from d1]; rfl
    refine hk _ ?_
    rw [hw]
    unfold Inv9 opt
    simp only [wk_seq, wk_block, wk_region, wkl_nil, wkl_cons, wk_cond, wkc_bool, wk_skip, wk_exit, wk_ret, ap_top, ap_seqN, ap_seqE, ap_seqR, ap_blkN, ap_blkE, ap_blkR, ap_invN, ap_invE, ap_invR, want_none, sop, wkr_some, wkr_map, wko_some, ev_tmp, ev_const, ev_func, tmps0, Tr.get_put, Tr.get_set, get_leaf, callS, evs, List.map_cons, List.map_nil, ↓reduceIte, Option.some.injEq, Nat.reduceEqDiff, bin_lss, bin_leq, bin_gtr, bin_geq, bin_eql, bin_neq, bin_add, bin_sub, bin_mul, max2, min2, resS, resV, decide_eq_true_eq, decide_eq_false_iff_not, beq_iff_eq, true_and, and_true, or_true, true_or, exists_eq_left', Option.map_some, Option.map_none, want_some, Option.bind_some, reduceCtorEq, List.nil_append, List.append_nil, List.cons_append, Value.int.injEq, wantD_some, List.getElem?_toArray, List.getElem?_cons_succ, List.getElem?_cons_zero, decide_true, decide_false, beq_self_eq_true, wantG_true, wantG_false, Bool.not_true, Bool.not_false, Bool.false_eq_true, if_true, if_false, flat_bool, flat_int, pure_not, pure_neg, ↓wk_tt, ↓wk_ff, false_implies, true_implies, wantG_undef, cells_agg, all2_one, sz23, push_next, push_floor, put_next, put_floor, dead_next, dead_floor, zero23, flat_span, field_lo, field_hi, ld23_eq, ld3_eq, st23_eq, get_push', get_put', ld23_row, ld3_0, ld3_1, st23_row, build_span, build_lo, build_none, Nat.reduceAdd, Nat.reduceLT, Nat.zero_le, exists_eq_left', List.map_cons, fl_fl, fl_self, t0, t5, t6, t7, t8]
    exact ⟨hfl, hnx, g2, g3, g4, g5, hy0⟩
  | true =>
    cases d2 : decide (B2 ≥ 1) with
    | false =>
      simp only [wk_seq, wk_block, wk_region, wkl_nil, wkl_cons, wk_cond, wkc_bool, wk_skip, wk_exit, wk_ret, ap_top, ap_seqN, ap_seqE, ap_seqR, ap_blkN, ap_blkE, ap_blkR, ap_invN, ap_invE, ap_invR, want_none, sop, wkr_some, wkr_map, wko_some, ev_tmp, ev_const, ev_func, tmps0, Tr.get_put, Tr.get_set, get_leaf, callS, evs, List.map_cons, List.map_nil, ↓reduceIte, Option.some.injEq, Nat.reduceEqDiff, bin_lss, bin_leq, bin_gtr, bin_geq, bin_eql, bin_neq, bin_add, bin_sub, bin_mul, max2, min2, resS, resV, decide_eq_true_eq, decide_eq_false_iff_not, beq_iff_eq, true_and, and_true, or_true, true_or, exists_eq_left', Option.map_some, Option.map_none, want_some, Option.bind_some, reduceCtorEq, List.nil_append, List.append_nil, List.cons_append, Value.int.injEq, wantD_some, List.getElem?_toArray, List.getElem?_cons_succ, List.getElem?_cons_zero, decide_true, decide_false, beq_self_eq_true, wantG_true, wantG_false, Bool.not_true, Bool.not_false, Bool.false_eq_true, if_true, if_false, flat_bool, flat_int, pure_not, pure_neg, ↓wk_tt, ↓wk_ff, false_implies, true_implies, wantG_undef, cells_agg, all2_one, sz23, push_next, push_floor, put_next, put_floor, dead_next, dead_floor, zero23, flat_span, field_lo, field_hi, ld23_eq, ld3_eq, st23_eq, get_push', get_put', ld23_row, ld3_0, ld3_1, st23_row, build_span, build_lo, build_none, Nat.reduceAdd, Nat.reduceLT, Nat.zero_le, exists_eq_left', List.map_cons, fl_fl, fl_self, t0, t5, t6, t7, t8, g2, g4, d1, d2]
      have hw : within B1 B2 1 = false := by unfold within; rw [show decide ((1 : Int) ≤ B2) = false from d2, Bool.and_false]
      refine hk _ ?_
      rw [hw]
      unfold Inv9 opt
      simp only [wk_seq, wk_block, wk_region, wkl_nil, wkl_cons, wk_cond, wkc_bool, wk_skip, wk_exit, wk_ret, ap_top, ap_seqN, ap_seqE, ap_seqR, ap_blkN, ap_blkE, ap_blkR, ap_invN, ap_invE, ap_invR, want_none, sop, wkr_some, wkr_map, wko_some, ev_tmp, ev_const, ev_func, tmps0, Tr.get_put, Tr.get_set, get_leaf, callS, evs, List.map_cons, List.map_nil, ↓reduceIte, Option.some.injEq, Nat.reduceEqDiff, bin_lss, bin_leq, bin_gtr, bin_geq, bin_eql, bin_neq, bin_add, bin_sub, bin_mul, max2, min2, resS, resV, decide_eq_true_eq, decide_eq_false_iff_not, beq_iff_eq, true_and, and_true, or_true, true_or, exists_eq_left', Option.map_some, Option.map_none, want_some, Option.bind_some, reduceCtorEq, List.nil_append, List.append_nil, List.cons_append, Value.int.injEq, wantD_some, List.getElem?_toArray, List.getElem?_cons_succ, List.getElem?_cons_zero, decide_true, decide_false, beq_self_eq_true, wantG_true, wantG_false, Bool.not_true, Bool.not_false, Bool.false_eq_true, if_true, if_false, flat_bool, flat_int, pure_not, pure_neg, ↓wk_tt, ↓wk_ff, false_implies, true_implies, wantG_undef, cells_agg, all2_one, sz23, push_next, push_floor, put_next, put_floor, dead_next, dead_floor, zero23, flat_span, field_lo, field_hi, ld23_eq, ld3_eq, st23_eq, get_push', get_put', ld23_row, ld3_0, ld3_1, st23_row, build_span, build_lo, build_none, Nat.reduceAdd, Nat.reduceLT, Nat.zero_le, exists_eq_left', List.map_cons, fl_fl, fl_self, t0, t5, t6, t7, t8]
      exact ⟨hfl, hnx, g2, g3, g4, g5, hy0⟩
    | true =>
      simp only [wk_seq, wk_block, wk_region, wkl_nil, wkl_cons, wk_cond, wkc_bool, wk_skip, wk_exit, wk_ret, ap_top, ap_seqN, ap_seqE, ap_seqR, ap_blkN, ap_blkE, ap_blkR, ap_invN, ap_invE, ap_invR, want_none, sop, wkr_some, wkr_map, wko_some, ev_tmp, ev_const, ev_func, tmps0, Tr.get_put, Tr.get_set, get_leaf, callS, evs, List.map_cons, List.map_nil, ↓reduceIte, Option.some.injEq, Nat.reduceEqDiff, bin_lss, bin_leq, bin_gtr, bin_geq, bin_eql, bin_neq, bin_add, bin_sub, bin_mul, max2, min2, resS, resV, decide_eq_true_eq, decide_eq_false_iff_not, beq_iff_eq, true_and, and_true, or_true, true_or, exists_eq_left', Option.map_some, Option.map_none, want_some, Option.bind_some, reduceCtorEq, List.nil_append, List.append_nil, List.cons_append, Value.int.injEq, wantD_some, List.getElem?_toArray, List.getElem?_cons_succ, List.getElem?_cons_zero, decide_true, decide_false, beq_self_eq_true, wantG_true, wantG_false, Bool.not_true, Bool.not_false, Bool.false_eq_true, if_true, if_false, flat_bool, flat_int, pure_not, pure_neg, ↓wk_tt, ↓wk_ff, false_implies, true_implies, wantG_undef, cells_agg, all2_one, sz23, push_next, push_floor, put_next, put_floor, dead_next, dead_floor, zero23, flat_span, field_lo, field_hi, ld23_eq, ld3_eq, st23_eq, get_push', get_put', ld23_row, ld3_0, ld3_1, st23_row, build_span, build_lo, build_none, Nat.reduceAdd, Nat.reduceLT, Nat.zero_le, exists_eq_left', List.map_cons, fl_fl, fl_self, t0, t5, t6, t7, t8, g2, g4, d1, d2, hfl, one_build, e1]
      have hw : within B1 B2 1 = true := by unfold within; rw [show decide ((1 : Int) ≥ B1) = true from d1, show decide ((1 : Int) ≤ B2) = true from d2]; rfl
      refine hk _ ?_
      rw [hw]
      unfold Inv9 opt
      simp only [wk_seq, wk_block, wk_region, wkl_nil, wkl_cons, wk_cond, wkc_bool, wk_skip, wk_exit, wk_ret, ap_top, ap_seqN, ap_seqE, ap_seqR, ap_blkN, ap_blkE, ap_blkR, ap_invN, ap_invE, ap_invR, want_none, sop, wkr_some, wkr_map, wko_some, ev_tmp, ev_const, ev_func, tmps0, Tr.get_put, Tr.get_set, get_leaf, callS, evs, List.map_cons, List.map_nil, ↓reduceIte, Option.some.injEq, Nat.reduceEqDiff, bin_lss, bin_leq, bin_gtr, bin_geq, bin_eql, bin_neq, bin_add, bin_sub, bin_mul, max2, min2, resS, resV, decide_eq_true_eq, decide_eq_false_iff_not, beq_iff_eq, true_and, and_true, or_true, true_or, exists_eq_left', Option.map_some, Option.map_none, want_some, Option.bind_some, reduceCtorEq, List.nil_append, List.append_nil, List.cons_append, Value.int.injEq, wantD_some, List.getElem?_toArray, List.getElem?_cons_succ, List.getElem?_cons_zero, decide_true, decide_false, beq_self_eq_true, wantG_true, wantG_false, Bool.not_true, Bool.not_false, Bool.false_eq_true, if_true, if_false, flat_bool, flat_int, pure_not, pure_neg, ↓wk_tt, ↓wk_ff, false_implies, true_implies, wantG_undef, cells_agg, all2_one, sz23, push_next, push_floor, put_next, put_floor, dead_next, dead_floor, zero23, flat_span, field_lo, field_hi, ld23_eq, ld3_eq, st23_eq, get_push', get_put', ld23_row, ld3_0, ld3_1, st23_row, build_span, build_lo, build_none, Nat.reduceAdd, Nat.reduceLT, Nat.zero_le, exists_eq_left', List.map_cons, fl_fl, fl_self, t0, t5, t6, t7, t8]
      exact ⟨by omega, by omega, by rw [e5 2 (by omega)]; exact g2, by rw [e5 3 (by omega)]; exact g3, by rw [e5 4 (by omega)]; exact g4, by rw [e5 5 (by omega)]; exact g5, e2⟩
set_option maxHeartbeats 8000000 in
theorem s9c_walk (hl : l.length < 100) (hI : Inv9 kind B1 B2 A1 A2 ⟨T, h⟩ l s)
    (hk : ∀ st', Inv9 kind B1 B2 A1 A2 st' (l ++ opt (within B1 B2 (-1)) (-1)) s → k.ap Tryz.prog call n .normal st') : WK Tryz.prog call n s9c ⟨T, h⟩ k := by
  obtain ⟨hfl, hnx, g2, g3, g4, g5, hy0, t0, t5, t6, t7, t8⟩ := hI
  simp only at hfl hnx g2 g3 g4 g5 hy0 t0 t5 t6 t7 t8
  obtain ⟨v', h', e1, e2, e3, e4, e5⟩ := two_append (x := (-1)) hy0 (by omega) (by omega)
  show WK _ _ _ (.seq _ _) _ _
  cases d1 : decide (B1 ≤ (-1)) with
  | false =>
    simp only [wk_seq, wk_block, wk_region, wkl_nil, wkl_cons, wk_cond, wkc_bool, wk_skip, wk_exit, wk_ret, ap_top, ap_seqN, ap_seqE, ap_seqR, ap_blkN, ap_blkE, ap_blkR, ap_invN, ap_invE, ap_invR, want_none, sop, wkr_some, wkr_map, wko_some, ev_tmp, ev_const, ev_func, tmps0, Tr.get_put, Tr.get_set, get_leaf, callS, evs, List.map_cons, List.map_nil, ↓reduceIte, Option.some.injEq, Nat.reduceEqDiff, bin_lss, bin_leq, bin_gtr, bin_geq, bin_eql, bin_neq, bin_add, bin_sub, bin_mul, max2, min2, resS, resV, decide_eq_true_eq, decide_eq_false_iff_not, beq_iff_eq, true_and, and_true, or_true, true_or, exists_eq_left', Option.map_some, Option.map_none, want_some, Option.bind_some, reduceCtorEq, List.nil_append, List.append_nil, List.cons_append, Value.int.injEq, wantD_some, List.getElem?_toArray, List.getElem?_cons_succ, List.getElem?_cons_zero, decide_true, decide_false, beq_self_eq_true, wantG_true, wantG_false, Bool.not_true, Bool.not_false, Bool.false_eq_true, if_true, if_false, flat_bool, flat_int, pure_not, pure_neg, ↓wk_tt, ↓wk_ff, false_implies, true_implies, wantG_undef, cells_agg, all2_one, sz23, push_next, push_floor, put_next, put_floor, dead_next, dead_floor, zero23, flat_span, field_lo, field_hi, ld23_eq, ld3_eq, st23_eq, get_push', get_put', ld23_row, ld3_0, ld3_1, st23_row, build_span, build_lo, build_none, Nat.reduceAdd, Nat.reduceLT, Nat.zero_le, exists_eq_left', List.map_cons, fl_fl, fl_self, t0, t5, t6, t7, t8, g2, g4, d1]
    have hw : within B1 B2 (-1) = false := by unfold within; rw [show decide (((-1) : Int) ≥ B1) = false from d1]; rfl
    refine hk _ ?_
    rw [hw]
    unfold Inv9 opt
    simp only [wk_seq, wk_block, wk_region, wkl_nil, wkl_cons, wk_cond, wkc_bool, wk_skip, wk_exit, wk_ret, ap_top, ap_seqN, ap_seqE, ap_seqR, ap_blkN, ap_blkE, ap_blkR, ap_invN, ap_invE, ap_invR, want_none, sop, wkr_some, wkr_map, wko_some, ev_tmp, ev_const, ev_func, tmps0, Tr.get_put, Tr.get_set, get_leaf, callS, evs, List.map_cons, List.map_nil, ↓reduceIte, Option.some.injEq, Nat.reduceEqDiff, bin_lss, bin_leq, bin_gtr, bin_geq, bin_eql, bin_neq, bin_add, bin_sub, bin_mul, max2, min2, resS, resV, decide_eq_true_eq, decide_eq_false_iff_not, beq_iff_eq, true_and, and_true, or_true, true_or, exists_eq_left', Option.map_some, Option.map_none, want_some, Option.bind_some, reduceCtorEq, List.nil_append, List.append_nil, List.cons_append, Value.int.injEq, wantD_some, List.getElem?_toArray, List.getElem?_cons_succ, List.getElem?_cons_zero, decide_true, decide_false, beq_self_eq_true, wantG_true, wantG_false, Bool.not_true, Bool.not_false, Bool.false_eq_true, if_true, if_false, flat_bool, flat_int, pure_not, pure_neg, ↓wk_tt, ↓wk_ff, false_implies, true_implies, wantG_undef, cells_agg, all2_one, sz23, push_next, push_floor, put_next, put_floor, dead_next, dead_floor, zero23, flat_span, field_lo, field_hi, ld23_eq, ld3_eq, st23_eq, get_push', get_put', ld23_row, ld3_0, ld3_1, st23_row, build_span, build_lo, build_none, Nat.reduceAdd, Nat.reduceLT, Nat.zero_le, exists_eq_left', List.map_cons, fl_fl, fl_self, t0, t5, t6, t7, t8]
    exact ⟨hfl, hnx, g2, g3, g4, g5, hy0⟩
  | true =>
    cases d2 : decide (B2 ≥ (-1)) with
    | false =>
      simp only [wk_seq, wk_block, wk_region, wkl_nil, wkl_cons, wk_cond, wkc_bool, wk_skip, wk_exit, wk_ret, ap_top, ap_seqN, ap_seqE, ap_seqR, ap_blkN, ap_blkE, ap_blkR, ap_invN, ap_invE, ap_invR, want_none, sop, wkr_some, wkr_map, wko_some, ev_tmp, ev_const, ev_func, tmps0, Tr.get_put, Tr.get_set, get_leaf, callS, evs, List.map_cons, List.map_nil, ↓reduceIte, Option.some.injEq, Nat.reduceEqDiff, bin_lss, bin_leq, bin_gtr, bin_geq, bin_eql, bin_neq, bin_add, bin_sub, bin_mul, max2, min2, resS, resV, decide_eq_true_eq, decide_eq_false_iff_not, beq_iff_eq, true_and, and_true, or_true, true_or, exists_eq_left', Option.map_some, Option.map_none, want_some, Option.bind_some, reduceCtorEq, List.nil_append, List.append_nil, List.cons_append, Value.int.injEq, wantD_some, List.getElem?_toArray, List.getElem?_cons_succ, List.getElem?_cons_zero, decide_true, decide_false, beq_self_eq_true, wantG_true, wantG_false, Bool.not_true, Bool.not_false, Bool.false_eq_true, if_true, if_false, flat_bool, flat_int, pure_not, pure_neg, ↓wk_tt, ↓wk_ff, false_implies, true_implies, wantG_undef, cells_agg, all2_one, sz23, push_next, push_floor, put_next, put_floor, dead_next, dead_floor, zero23, flat_span, field_lo, field_hi, ld23_eq, ld3_eq, st23_eq, get_push', get_put', ld23_row, ld3_0, ld3_1, st23_row, build_span, build_lo, build_none, Nat.reduceAdd, Nat.reduceLT, Nat.zero_le, exists_eq_left', List.map_cons, fl_fl, fl_self, t0, t5, t6, t7, t8, g2, g4, d1, d2]
      have hw : within B1 B2 (-1) = false := by unfold within; rw [show decide (((-1) : Int) ≤ B2) = false from d2, Bool.and_false]
      refine hk _ ?_
      rw [hw]
      unfold Inv9 opt
      simp only [wk_seq, wk_block, wk_region, wkl_nil, wkl_cons, wk_cond, wkc_bool, wk_skip, wk_exit, wk_ret, ap_top, ap_seqN, ap_seqE, ap_seqR, ap_blkN, ap_blkE, ap_blkR, ap_invN, ap_invE, ap_invR, want_none, sop, wkr_some, wkr_map, wko_some, ev_tmp, ev_const, ev_func, tmps0, Tr.get_put, Tr.get_set, get_leaf, callS, evs, List.map_cons, List.map_nil, ↓reduceIte, Option.some.injEq, Nat.reduceEqDiff, bin_lss, bin_leq, bin_gtr, bin_geq, bin_eql, bin_neq, bin_add, bin_sub, bin_mul, max2, min2, resS, resV, decide_eq_true_eq, decide_eq_false_iff_not, beq_iff_eq, true_and, and_true, or_true, true_or, exists_eq_left', Option.map_some, Option.map_none, want_some, Option.bind_some, reduceCtorEq, List.nil_append, List.append_nil, List.cons_append, Value.int.injEq, wantD_some, List.getElem?_toArray, List.getElem?_cons_succ, List.getElem?_cons_zero, decide_true, decide_false, beq_self_eq_true, wantG_true, wantG_false, Bool.not_true, Bool.not_false, Bool.false_eq_true, if_true, if_false, flat_bool, flat_int, pure_not, pure_neg, ↓wk_tt, ↓wk_ff, false_implies, true_implies, wantG_undef, cells_agg, all2_one, sz23, push_next, push_floor, put_next, put_floor, dead_next, dead_floor, zero23, flat_span, field_lo, field_hi, ld23_eq, ld3_eq, st23_eq, get_push', get_put', ld23_row, ld3_0, ld3_1, st23_row, build_span, build_lo, build_none, Nat.reduceAdd, Nat.reduceLT, Nat.zero_le, exists_eq_left', List.map_cons, fl_fl, fl_self, t0, t5, t6, t7, t8]
      exact ⟨hfl, hnx, g2, g3, g4, g5, hy0⟩
    | true =>
      simp only [wk_seq, wk_block, wk_region, wkl_nil, wkl_cons, wk_cond, wkc_bool, wk_skip, wk_exit, wk_ret, ap_top, ap_seqN, ap_seqE, ap_seqR, ap_blkN, ap_blkE, ap_blkR, ap_invN, ap_invE, ap_invR, want_none, sop, wkr_some, wkr_map, wko_some, ev_tmp, ev_const, ev_func, tmps0, Tr.get_put, Tr.get_set, get_leaf, callS, evs, List.map_cons, List.map_nil, ↓reduceIte, Option.some.injEq, Nat.reduceEqDiff, bin_lss, bin_leq, bin_gtr, bin_geq, bin_eql, bin_neq, bin_add, bin_sub, bin_mul, max2, min2, resS, resV, decide_eq_true_eq, decide_eq_false_iff_not, beq_iff_eq, true_and, and_true, or_true, true_or, exists_eq_left', Option.map_some, Option.map_none, want_some, Option.bind_some, reduceCtorEq, List.nil_append, List.append_nil, List.cons_append, Value.int.injEq, wantD_some, List.getElem?_toArray, List.getElem?_cons_succ, List.getElem?_cons_zero, decide_true, decide_false, beq_self_eq_true, wantG_true, wantG_false, Bool.not_true, Bool.not_false, Bool.false_eq_true, if_true, if_false, flat_bool, flat_int, pure_not, pure_neg, ↓wk_tt, ↓wk_ff, false_implies, true_implies, wantG_undef, cells_agg, all2_one, sz23, push_next, push_floor, put_next, put_floor, dead_next, dead_floor, zero23, flat_span, field_lo, field_hi, ld23_eq, ld3_eq, st23_eq, get_push', get_put', ld23_row, ld3_0, ld3_1, st23_row, build_span, build_lo, build_none, Nat.reduceAdd, Nat.reduceLT, Nat.zero_le, exists_eq_left', List.map_cons, fl_fl, fl_self, t0, t5, t6, t7, t8, g2, g4, d1, d2, hfl, one_build, e1]
      have hw : within B1 B2 (-1) = true := by unfold within; rw [show decide (((-1) : Int) ≥ B1) = true from d1, show decide (((-1) : Int) ≤ B2) = true from d2]; rfl
      refine hk _ ?_
      rw [hw]
      unfold Inv9 opt
      simp only [wk_seq, wk_block, wk_region, wkl_nil, wkl_cons, wk_cond, wkc_bool, wk_skip, wk_exit, wk_ret, ap_top, ap_seqN, ap_seqE, ap_seqR, ap_blkN, ap_blkE, ap_blkR, ap_invN, ap_invE, ap_invR, want_none, sop, wkr_some, wkr_map, wko_some, ev_tmp, ev_const, ev_func, tmps0, Tr.get_put, Tr.get_set, get_leaf, callS, evs, List.map_cons, List.map_nil, ↓reduceIte, Option.some.injEq, Nat.reduceEqDiff, bin_lss, bin_leq, bin_gtr, bin_geq, bin_eql, bin_neq, bin_add, bin_sub, bin_mul, max2, min2, resS, resV, decide_eq_true_eq, decide_eq_false_iff_not, beq_iff_eq, true_and, and_true, or_true, true_or, exists_eq_left', Option.map_some, Option.map_none, want_some, Option.bind_some, reduceCtorEq, List.nil_append, List.append_nil, List.cons_append, Value.int.injEq, wantD_some, List.getElem?_toArray, List.getElem?_cons_succ, List.getElem?_cons_zero, decide_true, decide_false, beq_self_eq_true, wantG_true, wantG_false, Bool.not_true, Bool.not_false, Bool.false_eq_true, if_true, if_false, flat_bool, flat_int, pure_not, pure_neg, ↓wk_tt, ↓wk_ff, false_implies, true_implies, wantG_undef, cells_agg, all2_one, sz23, push_next, push_floor, put_next, put_floor, dead_next, dead_floor, zero23, flat_span, field_lo, field_hi, ld23_eq, ld3_eq, st23_eq, get_push', get_put', ld23_row, ld3_0, ld3_1, st23_row, build_span, build_lo, build_none, Nat.reduceAdd, Nat.reduceLT, Nat.zero_le, exists_eq_left', List.map_cons, fl_fl, fl_self, t0, t5, t6, t7, t8]
      exact ⟨by omega, by omega, by rw [e5 2 (by omega)]; exact g2, by rw [e5 3 (by omega)]; exact g3, by rw [e5 4 (by omega)]; exact g4, by rw [e5 5 (by omega)]; exact g5, e2⟩
end
end Go.Proofs.YtdnnjkneablfiaaGreatDoor

/- The document's least span of an operation: walked as a whole; division and negation. -/
namespace Go.Proofs.YtdnnjkneablfiaaGreatDoor
open Go Go.Sx
set_option maxRecDepth 100000
set_option linter.unusedSimpArgs false
set_option linter.unusedVariables false

/-- What the document's text makes of two spans that hold numbers: of their ends, clamped. -/
def refE (kind A1 A2 B1 B2 : Int) : Int × Int :=
  if kind = 44 then chain (chain (1, 0) (opt (within B1 B2 0) (clampN 0))) (valsOf (oneW kind) [A1, A2] ([B1, B2] ++ opt (within B1 B2 1) 1 ++ opt (within B1 B2 (-1)) (-1)))
  else chain (1, 0) (valsOf (oneW kind) [A1, A2] [B1, B2])
def refN (kind a1 a2 b1 b2 : Int) : Int × Int := if noneB a1 a2 = true ∨ noneB b1 b2 = true then (1, 0) else refE kind (clampN a1) (clampN a2) (clampN b1) (clampN b2)

theorem opt_range {b : Bool} {x y : Int} (h : y ∈ opt b x) : y = x := by unfold opt at h; split at h <;> simp_all
theorem opt_len {b : Bool} {x : Int} : (opt b x).length ≤ 1 := by unfold opt; split <;> simp

section
variable {call : SCall} {n : Nat} {kind a1 a2 b1 b2 : Int}
set_option maxHeartbeats 8000000 in
theorem rof_walk (hsn : SnxOK call) (hN : 10 < n)
    (h31 : ∀ a b h, call 31 [spanV a b] h = some (.bool (noneB a b), h)) (h32 : ∀ h, call 32 [] h = some (spanV 1 0, h)) (h33 : ∀ a b h, call 33 [spanV a b] h = some (spanV (clampN a) (clampN b), h))
    (h35 : ∀ x y h, (-4611686018427387904 ≤ x ∧ x ≤ 4611686018427387904) → I64 y → call 35 [.int .i64 kind, .int .i64 x, .int .i64 y] h = some (.int .i64 (oneW kind x y), h))
    (h34 : ∀ a b x h, call 34 [spanV a b, .int .i64 x] h = some (spanV (joinN a b (clampN x) (clampN x)).1 (joinN a b (clampN x) (clampN x)).2, h)) :
    ∃ h', bodyF Tryz.prog call n 9 [.int .i64 kind, spanV a1 a2, spanV b1 b2] (deadH 1 0) = some (spanV (refN kind a1 a2 b1 b2).1 (refN kind a1 a2 b1 b2).2, h') ∧ True := by
  refine call_ex (R := fun _ => True) Tryz.func9 rfl (by simp [Tryz.f9]) ?_
  have hr : Tryz.f9.results.toList = [.cell 6 23] := rfl
  unfold refN
  by_cases hnone : noneB a1 a2 = true ∨ noneB b1 b2 = true
  · rw [if_pos hnone]
    cases hab : noneB a1 a2
    · have hcd : noneB b1 b2 = true := by rcases hnone with h | h <;> simp_all
      simp only [wk_seq, wk_block, wk_region, wkl_nil, wkl_cons, wk_cond, wkc_bool, wk_skip, wk_exit, wk_ret, ap_top, ap_seqN, ap_seqE, ap_seqR, ap_blkN, ap_blkE, ap_blkR, ap_invN, ap_invE, ap_invR, want_none, sop, wkr_some, wkr_map, wko_some, ev_tmp, ev_const, ev_func, tmps0, Tr.get_put, Tr.get_set, get_leaf, callS, evs, List.map_cons, List.map_nil, ↓reduceIte, Option.some.injEq, Nat.reduceEqDiff, bin_lss, bin_leq, bin_gtr, bin_geq, bin_eql, bin_neq, bin_add, bin_sub, bin_mul, max2, min2, resS, resV, decide_eq_true_eq, decide_eq_false_iff_not, beq_iff_eq, true_and, and_true, or_true, true_or, exists_eq_left', Option.map_some, Option.map_none, want_some, Option.bind_some, reduceCtorEq, List.nil_append, List.append_nil, List.cons_append, Value.int.injEq, wantD_some, List.getElem?_toArray, List.getElem?_cons_succ, List.getElem?_cons_zero, decide_true, decide_false, beq_self_eq_true, wantG_true, wantG_false, Bool.not_true, Bool.not_false, Bool.false_eq_true, if_true, if_false, flat_bool, flat_int, pure_not, pure_neg, ↓wk_tt, ↓wk_ff, false_implies, true_implies, wantG_undef, cells_agg, all2_one, sz23, push_next, push_floor, put_next, put_floor, dead_next, dead_floor, zero23, flat_span, field_lo, field_hi, ld23_eq, ld3_eq, st23_eq, get_push', get_put', ld23_row, ld3_0, ld3_1, st23_row, build_span, build_lo, build_none, Nat.reduceAdd, Nat.reduceLT, Nat.zero_le, exists_eq_left', List.map_cons, fl_fl, fl_self, hr, h31, h32, hab, hcd, Nat.reduceLeDiff]
    · simp only [wk_seq, wk_block, wk_region, wkl_nil, wkl_cons, wk_cond, wkc_bool, wk_skip, wk_exit, wk_ret, ap_top, ap_seqN, ap_seqE, ap_seqR, ap_blkN, ap_blkE, ap_blkR, ap_invN, ap_invE, ap_invR, want_none, sop, wkr_some, wkr_map, wko_some, ev_tmp, ev_const, ev_func, tmps0, Tr.get_put, Tr.get_set, get_leaf, callS, evs, List.map_cons, List.map_nil, ↓reduceIte, Option.some.injEq, Nat.reduceEqDiff, bin_lss, bin_leq, bin_gtr, bin_geq, bin_eql, bin_neq, bin_add, bin_sub, bin_mul, max2, min2, resS, resV, decide_eq_true_eq, decide_eq_false_iff_not, beq_iff_eq, true_and, and_true, or_true, true_or, exists_eq_left', Option.map_some, Option.map_none, want_some, Option.bind_some, reduceCtorEq, List.nil_append, List.append_nil, List.cons_append, Value.int.injEq, wantD_some, List.getElem?_toArray, List.getElem?_cons_succ, List.getElem?_cons_zero, decide_true, decide_false, beq_self_eq_true, wantG_true, wantG_false, Bool.not_true, Bool.not_false, Bool.false_eq_true, if_true, if_false, flat_bool, flat_int, pure_not, pure_neg, ↓wk_tt, ↓wk_ff, false_implies, true_implies, wantG_undef, cells_agg, all2_one, sz23, push_next, push_floor, put_next, put_floor, dead_next, dead_floor, zero23, flat_span, field_lo, field_hi, ld23_eq, ld3_eq, st23_eq, get_push', get_put', ld23_row, ld3_0, ld3_1, st23_row, build_span, build_lo, build_none, Nat.reduceAdd, Nat.reduceLT, Nat.zero_le, exists_eq_left', List.map_cons, fl_fl, fl_self, hr, h31, h32, hab, Nat.reduceLeDiff]
  · rw [if_neg hnone]
    have hab : noneB a1 a2 = false := by cases h : noneB a1 a2 <;> simp_all
    have hcd : noneB b1 b2 = false := by cases h : noneB b1 b2 <;> simp_all
    have rA1 := clampN_range a1
    have rA2 := clampN_range a2
    have rB1 := clampN_range b1
    have rB2 := clampN_range b2
    have hrx : ∀ x ∈ [clampN a1, clampN a2], -1073741824 ≤ x ∧ x ≤ 1073741824 := fun x hx => by
      simp at hx; rcases hx with rfl | rfl <;> assumption
    by_cases hk : kind = 44
    · subst hk
      have hE : ∀ A1 A2 B1 B2, refE 44 A1 A2 B1 B2 = chain (chain (1, 0) (opt (within B1 B2 0) (clampN 0))) (valsOf (oneW 44) [A1, A2] ([B1, B2] ++ opt (within B1 B2 1) 1 ++ opt (within B1 B2 (-1)) (-1))) := fun _ _ _ _ => rfl
      simp only [wk_seq, wk_block, wk_region, wkl_nil, wkl_cons, wk_cond, wkc_bool, wk_skip, wk_exit, wk_ret, ap_top, ap_seqN, ap_seqE, ap_seqR, ap_blkN, ap_blkE, ap_blkR, ap_invN, ap_invE, ap_invR, want_none, sop, wkr_some, wkr_map, wko_some, ev_tmp, ev_const, ev_func, tmps0, Tr.get_put, Tr.get_set, get_leaf, callS, evs, List.map_cons, List.map_nil, ↓reduceIte, Option.some.injEq, Nat.reduceEqDiff, bin_lss, bin_leq, bin_gtr, bin_geq, bin_eql, bin_neq, bin_add, bin_sub, bin_mul, max2, min2, resS, resV, decide_eq_true_eq, decide_eq_false_iff_not, beq_iff_eq, true_and, and_true, or_true, true_or, exists_eq_left', Option.map_some, Option.map_none, want_some, Option.bind_some, reduceCtorEq, List.nil_append, List.append_nil, List.cons_append, Value.int.injEq, wantD_some, List.getElem?_toArray, List.getElem?_cons_succ, List.getElem?_cons_zero, decide_true, decide_false, beq_self_eq_true, wantG_true, wantG_false, Bool.not_true, Bool.not_false, Bool.false_eq_true, if_true, if_false, flat_bool, flat_int, pure_not, pure_neg, ↓wk_tt, ↓wk_ff, false_implies, true_implies, wantG_undef, cells_agg, all2_one, sz23, push_next, push_floor, put_next, put_floor, dead_next, dead_floor, zero23, flat_span, field_lo, field_hi, ld23_eq, ld3_eq, st23_eq, get_push', get_put', ld23_row, ld3_0, ld3_1, st23_row, build_span, build_lo, build_none, Nat.reduceAdd, Nat.reduceLT, Nat.zero_le, exists_eq_left', List.map_cons, fl_fl, fl_self, hr, h31, h32, h33, hab, hcd, two_build, Nat.reduceLeDiff, -wk_cond]
      rw [wk_cond]
      simp only [wk_seq, wk_block, wk_region, wkl_nil, wkl_cons, wk_cond, wkc_bool, wk_skip, wk_exit, wk_ret, ap_top, ap_seqN, ap_seqE, ap_seqR, ap_blkN, ap_blkE, ap_blkR, ap_invN, ap_invE, ap_invR, want_none, sop, wkr_some, wkr_map, wko_some, ev_tmp, ev_const, ev_func, tmps0, Tr.get_put, Tr.get_set, get_leaf, callS, evs, List.map_cons, List.map_nil, ↓reduceIte, Option.some.injEq, Nat.reduceEqDiff, bin_lss, bin_leq, bin_gtr, bin_geq, bin_eql, bin_neq, bin_add, bin_sub, bin_mul, max2, min2, resS, resV, decide_eq_true_eq, decide_eq_false_iff_not, beq_iff_eq, true_and, and_true, or_true, true_or, exists_eq_left', Option.map_some, Option.map_none, want_some, Option.bind_some, reduceCtorEq, List.nil_append, List.append_nil, List.cons_append, Value.int.injEq, wantD_some, List.getElem?_toArray, List.getElem?_cons_succ, List.getElem?_cons_zero, decide_true, decide_false, beq_self_eq_true, wantG_true, wantG_false, Bool.not_true, Bool.not_false, Bool.false_eq_true, if_true, if_false, flat_bool, flat_int, pure_not, pure_neg, ↓wk_tt, ↓wk_ff, false_implies, true_implies, wantG_undef, cells_agg, all2_one, sz23, push_next, push_floor, put_next, put_floor, dead_next, dead_floor, zero23, flat_span, field_lo, field_hi, ld23_eq, ld3_eq, st23_eq, get_push', get_put', ld23_row, ld3_0, ld3_1, st23_row, build_span, build_lo, build_none, Nat.reduceAdd, Nat.reduceLT, Nat.zero_le, exists_eq_left', List.map_cons, fl_fl, fl_self, hr, h31, h32, h33, hab, hcd, two_build, Nat.reduceLeDiff, -wk_cond]
      rw [wk_cond]
      show WKC _ _ _ _ _ _ _ (Value.bool true)
      rw [wkc_bool]
      refine ⟨fun _ => ?_, fun h => by cases h⟩
      rw [wk_seq]
      refine s9a_walk (l := [clampN b1, clampN b2]) (s := (1, 0)) (kind := 44) (A1 := clampN a1) (A2 := clampN a2) (B1 := clampN b1) (B2 := clampN b2) h34 ?_ ?_
      · unfold Inv9
        simp only [wk_seq, wk_block, wk_region, wkl_nil, wkl_cons, wk_cond, wkc_bool, wk_skip, wk_exit, wk_ret, ap_top, ap_seqN, ap_seqE, ap_seqR, ap_blkN, ap_blkE, ap_blkR, ap_invN, ap_invE, ap_invR, want_none, sop, wkr_some, wkr_map, wko_some, ev_tmp, ev_const, ev_func, tmps0, Tr.get_put, Tr.get_set, get_leaf, callS, evs, List.map_cons, List.map_nil, ↓reduceIte, Option.some.injEq, Nat.reduceEqDiff, bin_lss, bin_leq, bin_gtr, bin_geq, bin_eql, bin_neq, bin_add, bin_sub, bin_mul, max2, min2, resS, resV, decide_eq_true_eq, decide_eq_false_iff_not, beq_iff_eq, true_and, and_true, or_true, true_or, exists_eq_left', Option.map_some, Option.map_none, want_some, Option.bind_some, reduceCtorEq, List.nil_append, List.append_nil, List.cons_append, Value.int.injEq, wantD_some, List.getElem?_toArray, List.getElem?_cons_succ, List.getElem?_cons_zero, decide_true, decide_false, beq_self_eq_true, wantG_true, wantG_false, Bool.not_true, Bool.not_false, Bool.false_eq_true, if_true, if_false, flat_bool, flat_int, pure_not, pure_neg, ↓wk_tt, ↓wk_ff, false_implies, true_implies, wantG_undef, cells_agg, all2_one, sz23, push_next, push_floor, put_next, put_floor, dead_next, dead_floor, zero23, flat_span, field_lo, field_hi, ld23_eq, ld3_eq, st23_eq, get_push', get_put', ld23_row, ld3_0, ld3_1, st23_row, build_span, build_lo, build_none, Nat.reduceAdd, Nat.reduceLT, Nat.zero_le, exists_eq_left', List.map_cons, fl_fl, fl_self]
        refine ⟨by decide, rfl, ⟨6, .inl ⟨rfl, ?_⟩, by decide, by show 6 < 7; decide⟩⟩
        simp only [wk_seq, wk_block, wk_region, wkl_nil, wkl_cons, wk_cond, wkc_bool, wk_skip, wk_exit, wk_ret, ap_top, ap_seqN, ap_seqE, ap_seqR, ap_blkN, ap_blkE, ap_blkR, ap_invN, ap_invE, ap_invR, want_none, sop, wkr_some, wkr_map, wko_some, ev_tmp, ev_const, ev_func, tmps0, Tr.get_put, Tr.get_set, get_leaf, callS, evs, List.map_cons, List.map_nil, ↓reduceIte, Option.some.injEq, Nat.reduceEqDiff, bin_lss, bin_leq, bin_gtr, bin_geq, bin_eql, bin_neq, bin_add, bin_sub, bin_mul, max2, min2, resS, resV, decide_eq_true_eq, decide_eq_false_iff_not, beq_iff_eq, true_and, and_true, or_true, true_or, exists_eq_left', Option.map_some, Option.map_none, want_some, Option.bind_some, reduceCtorEq, List.nil_append, List.append_nil, List.cons_append, Value.int.injEq, wantD_some, List.getElem?_toArray, List.getElem?_cons_succ, List.getElem?_cons_zero, decide_true, decide_false, beq_self_eq_true, wantG_true, wantG_false, Bool.not_true, Bool.not_false, Bool.false_eq_true, if_true, if_false, flat_bool, flat_int, pure_not, pure_neg, ↓wk_tt, ↓wk_ff, false_implies, true_implies, wantG_undef, cells_agg, all2_one, sz23, push_next, push_floor, put_next, put_floor, dead_next, dead_floor, zero23, flat_span, field_lo, field_hi, ld23_eq, ld3_eq, st23_eq, get_push', get_put', ld23_row, ld3_0, ld3_1, st23_row, build_span, build_lo, build_none, Nat.reduceAdd, Nat.reduceLT, Nat.zero_le, exists_eq_left', List.map_cons, fl_fl, fl_self]
        rfl
      · intro st1 hI1
        rw [ap_seqN, wk_seq]
        refine s9b_walk (by simp) hI1 fun st2 hI2 => ?_
        rw [ap_seqN]
        refine s9c_walk (by have := opt_len (b := within (clampN b1) (clampN b2) 1) (x := 1); simp; omega) hI2 fun st3 hI3 => ?_
        obtain ⟨T3, h3⟩ := st3
        simp only [wk_seq, wk_block, wk_region, wkl_nil, wkl_cons, wk_cond, wkc_bool, wk_skip, wk_exit, wk_ret, ap_top, ap_seqN, ap_seqE, ap_seqR, ap_blkN, ap_blkE, ap_blkR, ap_invN, ap_invE, ap_invR, want_none, sop, wkr_some, wkr_map, wko_some, ev_tmp, ev_const, ev_func, tmps0, Tr.get_put, Tr.get_set, get_leaf, callS, evs, List.map_cons, List.map_nil, ↓reduceIte, Option.some.injEq, Nat.reduceEqDiff, bin_lss, bin_leq, bin_gtr, bin_geq, bin_eql, bin_neq, bin_add, bin_sub, bin_mul, max2, min2, resS, resV, decide_eq_true_eq, decide_eq_false_iff_not, beq_iff_eq, true_and, and_true, or_true, true_or, exists_eq_left', Option.map_some, Option.map_none, want_some, Option.bind_some, reduceCtorEq, List.nil_append, List.append_nil, List.cons_append, Value.int.injEq, wantD_some, List.getElem?_toArray, List.getElem?_cons_succ, List.getElem?_cons_zero, decide_true, decide_false, beq_self_eq_true, wantG_true, wantG_false, Bool.not_true, Bool.not_false, Bool.false_eq_true, if_true, if_false, flat_bool, flat_int, pure_not, pure_neg, ↓wk_tt, ↓wk_ff, false_implies, true_implies, wantG_undef, cells_agg, all2_one, sz23, push_next, push_floor, put_next, put_floor, dead_next, dead_floor, zero23, flat_span, field_lo, field_hi, ld23_eq, ld3_eq, st23_eq, get_push', get_put', ld23_row, ld3_0, ld3_1, st23_row, build_span, build_lo, build_none, Nat.reduceAdd, Nat.reduceLT, Nat.zero_le, exists_eq_left', List.map_cons, fl_fl, fl_self]
        refine loop9_walk hsn hN hrx (ys := [clampN b1, clampN b2] ++ opt (within (clampN b1) (clampN b2) 1) 1 ++ opt (within (clampN b1) (clampN b2) (-1)) (-1)) (s := chain (1, 0) (opt (within (clampN b1) (clampN b2) 0) (clampN 0)))
          (B1 := clampN b1) (B2 := clampN b2) (kind := 44) ?_ h35 h34 ?_ ?_ ?_ ?_
        · intro y hy
          simp only [List.mem_append, List.mem_cons, List.not_mem_nil, or_false] at hy
          rcases hy with (hy | hy) | hy
          · rcases hy with rfl | rfl <;> assumption
          · have := opt_range hy; omega
          · have := opt_range hy; omega
        · have := opt_len (b := within (clampN b1) (clampN b2) 1) (x := 1)
          have := opt_len (b := within (clampN b1) (clampN b2) (-1)) (x := -1)
          simp
          omega
        · unfold Inv9 at hI3 ⊢
          simp only [wk_seq, wk_block, wk_region, wkl_nil, wkl_cons, wk_cond, wkc_bool, wk_skip, wk_exit, wk_ret, ap_top, ap_seqN, ap_seqE, ap_seqR, ap_blkN, ap_blkE, ap_blkR, ap_invN, ap_invE, ap_invR, want_none, sop, wkr_some, wkr_map, wko_some, ev_tmp, ev_const, ev_func, tmps0, Tr.get_put, Tr.get_set, get_leaf, callS, evs, List.map_cons, List.map_nil, ↓reduceIte, Option.some.injEq, Nat.reduceEqDiff, bin_lss, bin_leq, bin_gtr, bin_geq, bin_eql, bin_neq, bin_add, bin_sub, bin_mul, max2, min2, resS, resV, decide_eq_true_eq, decide_eq_false_iff_not, beq_iff_eq, true_and, and_true, or_true, true_or, exists_eq_left', Option.map_some, Option.map_none, want_some, Option.bind_some, reduceCtorEq, List.nil_append, List.append_nil, List.cons_append, Value.int.injEq, wantD_some, List.getElem?_toArray, List.getElem?_cons_succ, List.getElem?_cons_zero, decide_true, decide_false, beq_self_eq_true, wantG_true, wantG_false, Bool.not_true, Bool.not_false, Bool.false_eq_true, if_true, if_false, flat_bool, flat_int, pure_not, pure_neg, ↓wk_tt, ↓wk_ff, false_implies, true_implies, wantG_undef, cells_agg, all2_one, sz23, push_next, push_floor, put_next, put_floor, dead_next, dead_floor, zero23, flat_span, field_lo, field_hi, ld23_eq, ld3_eq, st23_eq, get_push', get_put', ld23_row, ld3_0, ld3_1, st23_row, build_span, build_lo, build_none, Nat.reduceAdd, Nat.reduceLT, Nat.zero_le, exists_eq_left', List.map_cons, fl_fl, fl_self]
          exact hI3
        · simp only [wk_seq, wk_block, wk_region, wkl_nil, wkl_cons, wk_cond, wkc_bool, wk_skip, wk_exit, wk_ret, ap_top, ap_seqN, ap_seqE, ap_seqR, ap_blkN, ap_blkE, ap_blkR, ap_invN, ap_invE, ap_invR, want_none, sop, wkr_some, wkr_map, wko_some, ev_tmp, ev_const, ev_func, tmps0, Tr.get_put, Tr.get_set, get_leaf, callS, evs, List.map_cons, List.map_nil, ↓reduceIte, Option.some.injEq, Nat.reduceEqDiff, bin_lss, bin_leq, bin_gtr, bin_geq, bin_eql, bin_neq, bin_add, bin_sub, bin_mul, max2, min2, resS, resV, decide_eq_true_eq, decide_eq_false_iff_not, beq_iff_eq, true_and, and_true, or_true, true_or, exists_eq_left', Option.map_some, Option.map_none, want_some, Option.bind_some, reduceCtorEq, List.nil_append, List.append_nil, List.cons_append, Value.int.injEq, wantD_some, List.getElem?_toArray, List.getElem?_cons_succ, List.getElem?_cons_zero, decide_true, decide_false, beq_self_eq_true, wantG_true, wantG_false, Bool.not_true, Bool.not_false, Bool.false_eq_true, if_true, if_false, flat_bool, flat_int, pure_not, pure_neg, ↓wk_tt, ↓wk_ff, false_implies, true_implies, wantG_undef, cells_agg, all2_one, sz23, push_next, push_floor, put_next, put_floor, dead_next, dead_floor, zero23, flat_span, field_lo, field_hi, ld23_eq, ld3_eq, st23_eq, get_push', get_put', ld23_row, ld3_0, ld3_1, st23_row, build_span, build_lo, build_none, Nat.reduceAdd, Nat.reduceLT, Nat.zero_le, exists_eq_left', List.map_cons, fl_fl, fl_self]
        · intro T' h' u6 u7 i1 i2 g3 g4
          have n3 : (3 < h'.next) = True := by simp; omega
          simp only [wk_seq, wk_block, wk_region, wkl_nil, wkl_cons, wk_cond, wkc_bool, wk_skip, wk_exit, wk_ret, ap_top, ap_seqN, ap_seqE, ap_seqR, ap_blkN, ap_blkE, ap_blkR, ap_invN, ap_invE, ap_invR, want_none, sop, wkr_some, wkr_map, wko_some, ev_tmp, ev_const, ev_func, tmps0, Tr.get_put, Tr.get_set, get_leaf, callS, evs, List.map_cons, List.map_nil, ↓reduceIte, Option.some.injEq, Nat.reduceEqDiff, bin_lss, bin_leq, bin_gtr, bin_geq, bin_eql, bin_neq, bin_add, bin_sub, bin_mul, max2, min2, resS, resV, decide_eq_true_eq, decide_eq_false_iff_not, beq_iff_eq, true_and, and_true, or_true, true_or, exists_eq_left', Option.map_some, Option.map_none, want_some, Option.bind_some, reduceCtorEq, List.nil_append, List.append_nil, List.cons_append, Value.int.injEq, wantD_some, List.getElem?_toArray, List.getElem?_cons_succ, List.getElem?_cons_zero, decide_true, decide_false, beq_self_eq_true, wantG_true, wantG_false, Bool.not_true, Bool.not_false, Bool.false_eq_true, if_true, if_false, flat_bool, flat_int, pure_not, pure_neg, ↓wk_tt, ↓wk_ff, false_implies, true_implies, wantG_undef, cells_agg, all2_one, sz23, push_next, push_floor, put_next, put_floor, dead_next, dead_floor, zero23, flat_span, field_lo, field_hi, ld23_eq, ld3_eq, st23_eq, get_push', get_put', ld23_row, ld3_0, ld3_1, st23_row, build_span, build_lo, build_none, Nat.reduceAdd, Nat.reduceLT, Nat.zero_le, exists_eq_left', List.map_cons, fl_fl, fl_self, hr, u6, u7, i1, n3, g3, g4, hE]
    · have e44 : (kind == 44) = false := by simpa using hk
      have hE : ∀ A1 A2 B1 B2, refE kind A1 A2 B1 B2 = chain (1, 0) (valsOf (oneW kind) [A1, A2] [B1, B2]) := fun _ _ _ _ => by unfold refE; rw [if_neg hk]
      simp only [wk_seq, wk_block, wk_region, wkl_nil, wkl_cons, wk_cond, wkc_bool, wk_skip, wk_exit, wk_ret, ap_top, ap_seqN, ap_seqE, ap_seqR, ap_blkN, ap_blkE, ap_blkR, ap_invN, ap_invE, ap_invR, want_none, sop, wkr_some, wkr_map, wko_some, ev_tmp, ev_const, ev_func, tmps0, Tr.get_put, Tr.get_set, get_leaf, callS, evs, List.map_cons, List.map_nil, ↓reduceIte, Option.some.injEq, Nat.reduceEqDiff, bin_lss, bin_leq, bin_gtr, bin_geq, bin_eql, bin_neq, bin_add, bin_sub, bin_mul, max2, min2, resS, resV, decide_eq_true_eq, decide_eq_false_iff_not, beq_iff_eq, true_and, and_true, or_true, true_or, exists_eq_left', Option.map_some, Option.map_none, want_some, Option.bind_some, reduceCtorEq, List.nil_append, List.append_nil, List.cons_append, Value.int.injEq, wantD_some, List.getElem?_toArray, List.getElem?_cons_succ, List.getElem?_cons_zero, decide_true, decide_false, beq_self_eq_true, wantG_true, wantG_false, Bool.not_true, Bool.not_false, Bool.false_eq_true, if_true, if_false, flat_bool, flat_int, pure_not, pure_neg, ↓wk_tt, ↓wk_ff, false_implies, true_implies, wantG_undef, cells_agg, all2_one, sz23, push_next, push_floor, put_next, put_floor, dead_next, dead_floor, zero23, flat_span, field_lo, field_hi, ld23_eq, ld3_eq, st23_eq, get_push', get_put', ld23_row, ld3_0, ld3_1, st23_row, build_span, build_lo, build_none, Nat.reduceAdd, Nat.reduceLT, Nat.zero_le, exists_eq_left', List.map_cons, fl_fl, fl_self, hr, h31, h32, h33, hab, hcd, e44, two_build, Nat.reduceLeDiff]
      refine loop9_walk hsn hN hrx (ys := [clampN b1, clampN b2]) (s := (1, 0)) (B1 := clampN b1) (B2 := clampN b2) (fun y hy => by simp at hy; rcases hy with rfl | rfl <;> assumption) h35 h34 (by simp) ?_ ?_ ?_
      · unfold Inv9
        simp only [wk_seq, wk_block, wk_region, wkl_nil, wkl_cons, wk_cond, wkc_bool, wk_skip, wk_exit, wk_ret, ap_top, ap_seqN, ap_seqE, ap_seqR, ap_blkN, ap_blkE, ap_blkR, ap_invN, ap_invE, ap_invR, want_none, sop, wkr_some, wkr_map, wko_some, ev_tmp, ev_const, ev_func, tmps0, Tr.get_put, Tr.get_set, get_leaf, callS, evs, List.map_cons, List.map_nil, ↓reduceIte, Option.some.injEq, Nat.reduceEqDiff, bin_lss, bin_leq, bin_gtr, bin_geq, bin_eql, bin_neq, bin_add, bin_sub, bin_mul, max2, min2, resS, resV, decide_eq_true_eq, decide_eq_false_iff_not, beq_iff_eq, true_and, and_true, or_true, true_or, exists_eq_left', Option.map_some, Option.map_none, want_some, Option.bind_some, reduceCtorEq, List.nil_append, List.append_nil, List.cons_append, Value.int.injEq, wantD_some, List.getElem?_toArray, List.getElem?_cons_succ, List.getElem?_cons_zero, decide_true, decide_false, beq_self_eq_true, wantG_true, wantG_false, Bool.not_true, Bool.not_false, Bool.false_eq_true, if_true, if_false, flat_bool, flat_int, pure_not, pure_neg, ↓wk_tt, ↓wk_ff, false_implies, true_implies, wantG_undef, cells_agg, all2_one, sz23, push_next, push_floor, put_next, put_floor, dead_next, dead_floor, zero23, flat_span, field_lo, field_hi, ld23_eq, ld3_eq, st23_eq, get_push', get_put', ld23_row, ld3_0, ld3_1, st23_row, build_span, build_lo, build_none, Nat.reduceAdd, Nat.reduceLT, Nat.zero_le, exists_eq_left', List.map_cons, fl_fl, fl_self]
        refine ⟨by decide, rfl, ⟨6, .inl ⟨rfl, ?_⟩, by decide, by show 6 < 7; decide⟩⟩
        simp only [wk_seq, wk_block, wk_region, wkl_nil, wkl_cons, wk_cond, wkc_bool, wk_skip, wk_exit, wk_ret, ap_top, ap_seqN, ap_seqE, ap_seqR, ap_blkN, ap_blkE, ap_blkR, ap_invN, ap_invE, ap_invR, want_none, sop, wkr_some, wkr_map, wko_some, ev_tmp, ev_const, ev_func, tmps0, Tr.get_put, Tr.get_set, get_leaf, callS, evs, List.map_cons, List.map_nil, ↓reduceIte, Option.some.injEq, Nat.reduceEqDiff, bin_lss, bin_leq, bin_gtr, bin_geq, bin_eql, bin_neq, bin_add, bin_sub, bin_mul, max2, min2, resS, resV, decide_eq_true_eq, decide_eq_false_iff_not, beq_iff_eq, true_and, and_true, or_true, true_or, exists_eq_left', Option.map_some, Option.map_none, want_some, Option.bind_some, reduceCtorEq, List.nil_append, List.append_nil, List.cons_append, Value.int.injEq, wantD_some, List.getElem?_toArray, List.getElem?_cons_succ, List.getElem?_cons_zero, decide_true, decide_false, beq_self_eq_true, wantG_true, wantG_false, Bool.not_true, Bool.not_false, Bool.false_eq_true, if_true, if_false, flat_bool, flat_int, pure_not, pure_neg, ↓wk_tt, ↓wk_ff, false_implies, true_implies, wantG_undef, cells_agg, all2_one, sz23, push_next, push_floor, put_next, put_floor, dead_next, dead_floor, zero23, flat_span, field_lo, field_hi, ld23_eq, ld3_eq, st23_eq, get_push', get_put', ld23_row, ld3_0, ld3_1, st23_row, build_span, build_lo, build_none, Nat.reduceAdd, Nat.reduceLT, Nat.zero_le, exists_eq_left', List.map_cons, fl_fl, fl_self]
        rfl
      · simp only [wk_seq, wk_block, wk_region, wkl_nil, wkl_cons, wk_cond, wkc_bool, wk_skip, wk_exit, wk_ret, ap_top, ap_seqN, ap_seqE, ap_seqR, ap_blkN, ap_blkE, ap_blkR, ap_invN, ap_invE, ap_invR, want_none, sop, wkr_some, wkr_map, wko_some, ev_tmp, ev_const, ev_func, tmps0, Tr.get_put, Tr.get_set, get_leaf, callS, evs, List.map_cons, List.map_nil, ↓reduceIte, Option.some.injEq, Nat.reduceEqDiff, bin_lss, bin_leq, bin_gtr, bin_geq, bin_eql, bin_neq, bin_add, bin_sub, bin_mul, max2, min2, resS, resV, decide_eq_true_eq, decide_eq_false_iff_not, beq_iff_eq, true_and, and_true, or_true, true_or, exists_eq_left', Option.map_some, Option.map_none, want_some, Option.bind_some, reduceCtorEq, List.nil_append, List.append_nil, List.cons_append, Value.int.injEq, wantD_some, List.getElem?_toArray, List.getElem?_cons_succ, List.getElem?_cons_zero, decide_true, decide_false, beq_self_eq_true, wantG_true, wantG_false, Bool.not_true, Bool.not_false, Bool.false_eq_true, if_true, if_false, flat_bool, flat_int, pure_not, pure_neg, ↓wk_tt, ↓wk_ff, false_implies, true_implies, wantG_undef, cells_agg, all2_one, sz23, push_next, push_floor, put_next, put_floor, dead_next, dead_floor, zero23, flat_span, field_lo, field_hi, ld23_eq, ld3_eq, st23_eq, get_push', get_put', ld23_row, ld3_0, ld3_1, st23_row, build_span, build_lo, build_none, Nat.reduceAdd, Nat.reduceLT, Nat.zero_le, exists_eq_left', List.map_cons, fl_fl, fl_self]
      · intro T' h' u6 u7 i1 i2 g3 g4
        have n3 : (3 < h'.next) = True := by simp; omega
        simp only [wk_seq, wk_block, wk_region, wkl_nil, wkl_cons, wk_cond, wkc_bool, wk_skip, wk_exit, wk_ret, ap_top, ap_seqN, ap_seqE, ap_seqR, ap_blkN, ap_blkE, ap_blkR, ap_invN, ap_invE, ap_invR, want_none, sop, wkr_some, wkr_map, wko_some, ev_tmp, ev_const, ev_func, tmps0, Tr.get_put, Tr.get_set, get_leaf, callS, evs, List.map_cons, List.map_nil, ↓reduceIte, Option.some.injEq, Nat.reduceEqDiff, bin_lss, bin_leq, bin_gtr, bin_geq, bin_eql, bin_neq, bin_add, bin_sub, bin_mul, max2, min2, resS, resV, decide_eq_true_eq, decide_eq_false_iff_not, beq_iff_eq, true_and, and_true, or_true, true_or, exists_eq_left', Option.map_some, Option.map_none, want_some, Option.bind_some, reduceCtorEq, List.nil_append, List.append_nil, List.cons_append, Value.int.injEq, wantD_some, List.getElem?_toArray, List.getElem?_cons_succ, List.getElem?_cons_zero, decide_true, decide_false, beq_self_eq_true, wantG_true, wantG_false, Bool.not_true, Bool.not_false, Bool.false_eq_true, if_true, if_false, flat_bool, flat_int, pure_not, pure_neg, ↓wk_tt, ↓wk_ff, false_implies, true_implies, wantG_undef, cells_agg, all2_one, sz23, push_next, push_floor, put_next, put_floor, dead_next, dead_floor, zero23, flat_span, field_lo, field_hi, ld23_eq, ld3_eq, st23_eq, get_push', get_put', ld23_row, ld3_0, ld3_1, st23_row, build_span, build_lo, build_none, Nat.reduceAdd, Nat.reduceLT, Nat.zero_le, exists_eq_left', List.map_cons, fl_fl, fl_self, hr, u6, u7, i1, n3, g3, g4, hE]
end
end Go.Proofs.YtdnnjkneablfiaaGreatDoor

/- Division and negation of spans, and what the document makes of them. -/
namespace Go.Proofs.YtdnnjkneablfiaaGreatDoor
open Go Go.Sx
set_option maxRecDepth 100000
set_option linter.unusedSimpArgs false
set_option linter.unusedVariables false

theorem three_build {h : SHeap} {a b c : Int} : buildSliceS Tryz.prog h 34 3 [(0, .int .i64 a), (1, .int .i64 b), (2, .int .i64 c)] = some (.slice (some ⟨h.next, 0, none⟩) 3 3, h.push (.row [.int .i64 a, .int .i64 b, .int .i64 c] 3 false false)) := by
  have e5 : (Value.int .i64 0).cells = #[.int .i64 0] := rfl
  have e6 : (Value.int .i64 a).cells = #[.int .i64 a] := rfl
  have e7 : (Value.int .i64 b).cells = #[.int .i64 b] := rfl
  have e8 : (Value.int .i64 c).cells = #[.int .i64 c] := rfl
  simp [buildSliceS, Tryz.underlying34, sz3, zero3, flat, flat1, e5, e6, e7, e8, fillS, zeros, Go.Sx.lay]

section
variable {call : SCall} {n : Nat} {a1 a2 b1 b2 p q : Int}
theorem div2_walk (h29 : ∀ h, h.next = 5 → h.floor = 0 → h.get 4 = .row (ints [-1, 0, 1]) 3 false false → ∃ h', call 29 [spanV a1 a2, spanV b1 b2, .func (.func 38) #[] #[], .slice (some ⟨4, 0, none⟩) 3 3] h = some (spanV p q, h') ∧ (h'.floor = 0 ∧ 5 ≤ h'.next ∧ ∀ i, i < 5 → h'.get i = h.get i)) :
    ∃ h', bodyF Tryz.prog call n 12 [spanV a1 a2, spanV b1 b2] (deadH 1 0) = some (spanV p q, h') ∧ True := by
  refine call_ex (R := fun _ => True) Tryz.func12 rfl (by simp [Tryz.f12]) ?_
  have hr : Tryz.f12.results.toList = [.cell 4 23] := rfl
  obtain ⟨h', e1, e2, e3, e4⟩ := h29 (((((deadH 1 0).push (.row [.int .i64 a1, .int .i64 a2] 23 false false)).push (.row [.int .i64 b1, .int .i64 b2] 23 false false)).push (.row [.int .i64 0, .int .i64 0] 23 false false)).push (.row [.int .i64 (-1), .int .i64 0, .int .i64 1] 3 false false)) rfl rfl (by
    simp only [wk_seq, wk_block, wk_region, wkl_nil, wkl_cons, wk_cond, wkc_bool, wk_skip, wk_exit, wk_ret, ap_top, ap_seqN, ap_seqE, ap_seqR, ap_blkN, ap_blkE, ap_blkR, ap_invN, ap_invE, ap_invR, want_none, sop, wkr_some, wkr_map, wko_some, ev_tmp, ev_const, ev_func, tmps0, Tr.get_put, Tr.get_set, get_leaf, callS, evs, List.map_cons, List.map_nil, ↓reduceIte, Option.some.injEq, Nat.reduceEqDiff, bin_lss, bin_leq, bin_gtr, bin_geq, bin_eql, bin_neq, bin_add, bin_sub, bin_mul, max2, min2, resS, resV, decide_eq_true_eq, decide_eq_false_iff_not, beq_iff_eq, true_and, and_true, or_true, true_or, exists_eq_left', Option.map_some, Option.map_none, want_some, Option.bind_some, reduceCtorEq, List.nil_append, List.append_nil, List.cons_append, Value.int.injEq, wantD_some, List.getElem?_toArray, List.getElem?_cons_succ, List.getElem?_cons_zero, decide_true, decide_false, beq_self_eq_true, wantG_true, wantG_false, Bool.not_true, Bool.not_false, Bool.false_eq_true, if_true, if_false, flat_bool, flat_int, pure_not, pure_neg, ↓wk_tt, ↓wk_ff, false_implies, true_implies, wantG_undef, cells_agg, all2_one, sz23, push_next, push_floor, put_next, put_floor, dead_next, dead_floor, zero23, flat_span, field_lo, field_hi, ld23_eq, ld3_eq, st23_eq, get_push', get_put', ld23_row, ld3_0, ld3_1, st23_row, build_span, build_lo, build_none, Nat.reduceAdd, Nat.reduceLT, Nat.zero_le, exists_eq_left', List.map_cons, fl_fl, fl_self]
    rfl)
  have g3 : h'.get 3 = .row [.int .i64 0, .int .i64 0] 23 false false := by
    rw [e4 3 (by decide)]
    simp only [wk_seq, wk_block, wk_region, wkl_nil, wkl_cons, wk_cond, wkc_bool, wk_skip, wk_exit, wk_ret, ap_top, ap_seqN, ap_seqE, ap_seqR, ap_blkN, ap_blkE, ap_blkR, ap_invN, ap_invE, ap_invR, want_none, sop, wkr_some, wkr_map, wko_some, ev_tmp, ev_const, ev_func, tmps0, Tr.get_put, Tr.get_set, get_leaf, callS, evs, List.map_cons, List.map_nil, ↓reduceIte, Option.some.injEq, Nat.reduceEqDiff, bin_lss, bin_leq, bin_gtr, bin_geq, bin_eql, bin_neq, bin_add, bin_sub, bin_mul, max2, min2, resS, resV, decide_eq_true_eq, decide_eq_false_iff_not, beq_iff_eq, true_and, and_true, or_true, true_or, exists_eq_left', Option.map_some, Option.map_none, want_some, Option.bind_some, reduceCtorEq, List.nil_append, List.append_nil, List.cons_append, Value.int.injEq, wantD_some, List.getElem?_toArray, List.getElem?_cons_succ, List.getElem?_cons_zero, decide_true, decide_false, beq_self_eq_true, wantG_true, wantG_false, Bool.not_true, Bool.not_false, Bool.false_eq_true, if_true, if_false, flat_bool, flat_int, pure_not, pure_neg, ↓wk_tt, ↓wk_ff, false_implies, true_implies, wantG_undef, cells_agg, all2_one, sz23, push_next, push_floor, put_next, put_floor, dead_next, dead_floor, zero23, flat_span, field_lo, field_hi, ld23_eq, ld3_eq, st23_eq, get_push', get_put', ld23_row, ld3_0, ld3_1, st23_row, build_span, build_lo, build_none, Nat.reduceAdd, Nat.reduceLT, Nat.zero_le, exists_eq_left', List.map_cons, fl_fl, fl_self]
  have n3 : (3 < h'.next) = True := by simp; omega
  simp only [wk_seq, wk_block, wk_region, wkl_nil, wkl_cons, wk_cond, wkc_bool, wk_skip, wk_exit, wk_ret, ap_top, ap_seqN, ap_seqE, ap_seqR, ap_blkN, ap_blkE, ap_blkR, ap_invN, ap_invE, ap_invR, want_none, sop, wkr_some, wkr_map, wko_some, ev_tmp, ev_const, ev_func, tmps0, Tr.get_put, Tr.get_set, get_leaf, callS, evs, List.map_cons, List.map_nil, ↓reduceIte, Option.some.injEq, Nat.reduceEqDiff, bin_lss, bin_leq, bin_gtr, bin_geq, bin_eql, bin_neq, bin_add, bin_sub, bin_mul, max2, min2, resS, resV, decide_eq_true_eq, decide_eq_false_iff_not, beq_iff_eq, true_and, and_true, or_true, true_or, exists_eq_left', Option.map_some, Option.map_none, want_some, Option.bind_some, reduceCtorEq, List.nil_append, List.append_nil, List.cons_append, Value.int.injEq, wantD_some, List.getElem?_toArray, List.getElem?_cons_succ, List.getElem?_cons_zero, decide_true, decide_false, beq_self_eq_true, wantG_true, wantG_false, Bool.not_true, Bool.not_false, Bool.false_eq_true, if_true, if_false, flat_bool, flat_int, pure_not, pure_neg, ↓wk_tt, ↓wk_ff, false_implies, true_implies, wantG_undef, cells_agg, all2_one, sz23, push_next, push_floor, put_next, put_floor, dead_next, dead_floor, zero23, flat_span, field_lo, field_hi, ld23_eq, ld3_eq, st23_eq, get_push', get_put', ld23_row, ld3_0, ld3_1, st23_row, build_span, build_lo, build_none, Nat.reduceAdd, Nat.reduceLT, Nat.zero_le, exists_eq_left', List.map_cons, fl_fl, fl_self, hr, three_build, e1, e2, g3, n3, Nat.reduceLeDiff]
theorem neg_walk (h10 : ∀ h, call 10 [spanV 0 0, spanV a1 a2] h = some (spanV p q, h)) : ∃ h', bodyF Tryz.prog call n 15 [spanV a1 a2] (deadH 1 0) = some (spanV p q, h') ∧ True := by
  refine call_ex (R := fun _ => True) Tryz.func15 rfl (by simp [Tryz.f15]) ?_
  have hr : Tryz.f15.results.toList = [.cell 2 23] := rfl
  simp only [wk_seq, wk_block, wk_region, wkl_nil, wkl_cons, wk_cond, wkc_bool, wk_skip, wk_exit, wk_ret, ap_top, ap_seqN, ap_seqE, ap_seqR, ap_blkN, ap_blkE, ap_blkR, ap_invN, ap_invE, ap_invR, want_none, sop, wkr_some, wkr_map, wko_some, ev_tmp, ev_const, ev_func, tmps0, Tr.get_put, Tr.get_set, get_leaf, callS, evs, List.map_cons, List.map_nil, ↓reduceIte, Option.some.injEq, Nat.reduceEqDiff, bin_lss, bin_leq, bin_gtr, bin_geq, bin_eql, bin_neq, bin_add, bin_sub, bin_mul, max2, min2, resS, resV, decide_eq_true_eq, decide_eq_false_iff_not, beq_iff_eq, true_and, and_true, or_true, true_or, exists_eq_left', Option.map_some, Option.map_none, want_some, Option.bind_some, reduceCtorEq, List.nil_append, List.append_nil, List.cons_append, Value.int.injEq, wantD_some, List.getElem?_toArray, List.getElem?_cons_succ, List.getElem?_cons_zero, decide_true, decide_false, beq_self_eq_true, wantG_true, wantG_false, Bool.not_true, Bool.not_false, Bool.false_eq_true, if_true, if_false, flat_bool, flat_int, pure_not, pure_neg, ↓wk_tt, ↓wk_ff, false_implies, true_implies, wantG_undef, cells_agg, all2_one, sz23, push_next, push_floor, put_next, put_floor, dead_next, dead_floor, zero23, flat_span, field_lo, field_hi, ld23_eq, ld3_eq, st23_eq, get_push', get_put', ld23_row, ld3_0, ld3_1, st23_row, build_span, build_lo, build_none, Nat.reduceAdd, Nat.reduceLT, Nat.zero_le, exists_eq_left', List.map_cons, fl_fl, fl_self, hr, h10, Nat.reduceLeDiff]
def rnegN (a1 a2 : Int) : Int × Int := if noneB a1 a2 = true then (1, 0) else (0 - clampN a2, 0 - clampN a1)
theorem rneg_walk (h31 : ∀ a b h, call 31 [spanV a b] h = some (.bool (noneB a b), h)) (h32 : ∀ h, call 32 [] h = some (spanV 1 0, h)) (h33 : ∀ a b h, call 33 [spanV a b] h = some (spanV (clampN a) (clampN b), h)) :
    ∃ h', bodyF Tryz.prog call n 16 [spanV a1 a2] (deadH 1 0) = some (spanV (rnegN a1 a2).1 (rnegN a1 a2).2, h') ∧ True := by
  refine call_ex (R := fun _ => True) Tryz.func16 rfl (by simp [Tryz.f16]) ?_
  have hr : Tryz.f16.results.toList = [.cell 2 23] := rfl
  have r1 := clampN_range a1
  have r2 := clampN_range a2
  have w1 : IntKind.i64.wrap (0 - clampN a1) = 0 - clampN a1 := wrap_id (by omega) (by omega)
  have w2 : IntKind.i64.wrap (0 - clampN a2) = 0 - clampN a2 := wrap_id (by omega) (by omega)
  unfold rnegN
  cases hab : noneB a1 a2
  · simp only [wk_seq, wk_block, wk_region, wkl_nil, wkl_cons, wk_cond, wkc_bool, wk_skip, wk_exit, wk_ret, ap_top, ap_seqN, ap_seqE, ap_seqR, ap_blkN, ap_blkE, ap_blkR, ap_invN, ap_invE, ap_invR, want_none, sop, wkr_some, wkr_map, wko_some, ev_tmp, ev_const, ev_func, tmps0, Tr.get_put, Tr.get_set, get_leaf, callS, evs, List.map_cons, List.map_nil, ↓reduceIte, Option.some.injEq, Nat.reduceEqDiff, bin_lss, bin_leq, bin_gtr, bin_geq, bin_eql, bin_neq, bin_add, bin_sub, bin_mul, max2, min2, resS, resV, decide_eq_true_eq, decide_eq_false_iff_not, beq_iff_eq, true_and, and_true, or_true, true_or, exists_eq_left', Option.map_some, Option.map_none, want_some, Option.bind_some, reduceCtorEq, List.nil_append, List.append_nil, List.cons_append, Value.int.injEq, wantD_some, List.getElem?_toArray, List.getElem?_cons_succ, List.getElem?_cons_zero, decide_true, decide_false, beq_self_eq_true, wantG_true, wantG_false, Bool.not_true, Bool.not_false, Bool.false_eq_true, if_true, if_false, flat_bool, flat_int, pure_not, pure_neg, ↓wk_tt, ↓wk_ff, false_implies, true_implies, wantG_undef, cells_agg, all2_one, sz23, push_next, push_floor, put_next, put_floor, dead_next, dead_floor, zero23, flat_span, field_lo, field_hi, ld23_eq, ld3_eq, st23_eq, get_push', get_put', ld23_row, ld3_0, ld3_1, st23_row, build_span, build_lo, build_none, Nat.reduceAdd, Nat.reduceLT, Nat.zero_le, exists_eq_left', List.map_cons, fl_fl, fl_self, hr, h31, h32, h33, hab, w1, w2, Nat.reduceLeDiff]
  · simp only [wk_seq, wk_block, wk_region, wkl_nil, wkl_cons, wk_cond, wkc_bool, wk_skip, wk_exit, wk_ret, ap_top, ap_seqN, ap_seqE, ap_seqR, ap_blkN, ap_blkE, ap_blkR, ap_invN, ap_invE, ap_invR, want_none, sop, wkr_some, wkr_map, wko_some, ev_tmp, ev_const, ev_func, tmps0, Tr.get_put, Tr.get_set, get_leaf, callS, evs, List.map_cons, List.map_nil, ↓reduceIte, Option.some.injEq, Nat.reduceEqDiff, bin_lss, bin_leq, bin_gtr, bin_geq, bin_eql, bin_neq, bin_add, bin_sub, bin_mul, max2, min2, resS, resV, decide_eq_true_eq, decide_eq_false_iff_not, beq_iff_eq, true_and, and_true, or_true, true_or, exists_eq_left', Option.map_some, Option.map_none, want_some, Option.bind_some, reduceCtorEq, List.nil_append, List.append_nil, List.cons_append, Value.int.injEq, wantD_some, List.getElem?_toArray, List.getElem?_cons_succ, List.getElem?_cons_zero, decide_true, decide_false, beq_self_eq_true, wantG_true, wantG_false, Bool.not_true, Bool.not_false, Bool.false_eq_true, if_true, if_false, flat_bool, flat_int, pure_not, pure_neg, ↓wk_tt, ↓wk_ff, false_implies, true_implies, wantG_undef, cells_agg, all2_one, sz23, push_next, push_floor, put_next, put_floor, dead_next, dead_floor, zero23, flat_span, field_lo, field_hi, ld23_eq, ld3_eq, st23_eq, get_push', get_put', ld23_row, ld3_0, ld3_1, st23_row, build_span, build_lo, build_none, Nat.reduceAdd, Nat.reduceLT, Nat.zero_le, exists_eq_left', List.map_cons, fl_fl, fl_self, hr, h31, h32, h33, hab, Nat.reduceLeDiff]
end

/-! ### Layers -/
section
theorem d3_16 (a1 a2 : Int) (h : SHeap) : D3 16 [spanV a1 a2] h = some (spanV (rnegN a1 a2).1 (rnegN a1 a2).2, h) :=
  lay_new (lay_none (lay_none rfl rfl) rfl) (lay_none (lay_none rfl rfl) rfl) rfl rfl rfl (ofEx (rneg_walk (fun a b h => cg_up (lay_up (d1_31 a b h))) (fun h => cg_up (lay_up (d1_32 h))) (fun a b h => cg_up (d2_33 a b h))))
theorem d5_9 (kind a1 a2 b1 b2 : Int) (h : SHeap) : D5 9 [.int .i64 kind, spanV a1 a2, spanV b1 b2] h = some (spanV (refN kind a1 a2 b1 b2).1 (refN kind a1 a2 b1 b2).2, h) :=
  lay_new (D5none 9 rfl rfl rfl rfl _ _) (D5none 9 rfl rfl rfl rfl _ _) rfl rfl rfl (ofEx (rof_walk (snxG D4_ok _) (by decide) (fun a b h => cg_up (lay_up (lay_up (lay_up (d1_31 a b h))))) (fun h => cg_up (lay_up (lay_up (lay_up (d1_32 h))))) (fun a b h => cg_up (lay_up (lay_up (d2_33 a b h))))
    (fun x y h hx hy => cg_up (lay_up (lay_up (lay_up (d1_35 hx hy h))))) (fun a b x h => cg_up (lay_up (d3_34 a b x h)))))
theorem d5_12 (a1 a2 b1 b2 : Int) (h : SHeap) : D5 12 [spanV a1 a2, spanV b1 b2] h = some (spanV (ofN divN [-1, 0, 1] a1 a2 b1 b2).1 (ofN divN [-1, 0, 1] a1 a2 b1 b2).2, h) := by
  refine lay_new (D5none 12 rfl rfl rfl rfl _ _) (D5none 12 rfl rfl rfl rfl _ _) rfl rfl rfl (ofEx (div2_walk fun h hn hf h4 => ?_))
  have e : D4 29 [spanV a1 a2, spanV b1 b2, .func (.func 38) #[] #[], .slice (some ⟨4, 0, none⟩) 3 3] h = none := lay_stiff (lay_none (lay_none (lay_none rfl rfl) rfl) rfl) rfl
  rw [cg_body e]
  exact of_walk (snxG D4_ok _) (by decide) (fun a b h => cg_up (lay_up (lay_up (lay_up (d1_41 a b h))))) (fun h => cg_up (lay_up (lay_up (lay_up (d1_42 h))))) (fun x h => cg_up (lay_up (lay_up (lay_up (d1_79 x h)))))
    (fun a b c d h => cg_up (lay_up (lay_up (d2_17 a b c d h)))) (fun x y h hx hy => cg_up (lay_up (lay_up (lay_up (d1_38 (by unfold I64; omega) (by unfold I64; omega) h))))) (os := [-1, 0, 1]) (fun x hx => by simp at hx; omega) (by simp) hn hf (.inr ⟨rfl, h4⟩)
theorem d6_15 (a1 a2 : Int) (h : SHeap) : D6 15 [spanV a1 a2] h = some (spanV (ofN (· - ·) [] 0 0 a1 a2).1 (ofN (· - ·) [] 0 0 a1 a2).2, h) :=
  lay_new (lay_none (D5none 15 rfl rfl rfl rfl _ _) rfl) (lay_none (D5none 15 rfl rfl rfl rfl _ _) rfl) rfl rfl rfl (ofEx (neg_walk fun h => cg_up (d5_10 0 0 a1 a2 h)))
end

/-! ### The laws -/
theorem valsOf_congr {F G : Int → Int → Int} {xs ys : List Int} (h : ∀ x ∈ xs, ∀ y ∈ ys, clampN (F x y) = clampN (G x y)) : valsOf F xs ys = valsOf G xs ys := by
  induction xs with
  | nil => rfl
  | cons x xs ih =>
    have e1 : rowOf F x ys = rowOf G x ys := List.map_congr_left fun y hy => h x (by simp) y hy
    have e2 := ih fun x hx => h x (by simp [hx])
    unfold valsOf at *
    rw [List.flatMap_cons, List.flatMap_cons, e1, e2]
theorem ref_plain {kind : Int} {F : Int → Int → Int} (hk : kind ≠ 44) (hF : ∀ x y, -1073741824 ≤ x ∧ x ≤ 1073741824 → -1073741824 ≤ y ∧ y ≤ 1073741824 → oneW kind x y = F x y) (a1 a2 b1 b2 : Int) : refN kind a1 a2 b1 b2 = ofN F [] a1 a2 b1 b2 := by
  unfold refN
  by_cases hn : noneB a1 a2 = true ∨ noneB b1 b2 = true
  · rw [if_pos hn, ofN_none (by rw [noneB_true, noneB_true] at hn; exact hn)]
  · rw [if_neg hn]
    rw [noneB_true, noneB_true] at hn
    have m := clampN_mono (a := b1) (b := b2) (by omega)
    rw [ofN_spots (by omega) (by omega)]
    unfold refE spots
    rw [if_neg hk]
    have e : ([clampN b1, clampN b2] ++ []).filter (within (clampN b1) (clampN b2)) = [clampN b1, clampN b2] := by
      rw [List.append_nil, List.filter_eq_self]
      intro y hy
      simp at hy
      rw [within_iff]
      rcases hy with rfl | rfl <;> omega
    rw [e]
    congr 1
    refine valsOf_congr fun x hx y hy => ?_
    have r1 := clampN_range a1
    have r2 := clampN_range a2
    have r3 := clampN_range b1
    have r4 := clampN_range b2
    rw [hF x y (by simp at hx; rcases hx with rfl | rfl <;> assumption) (by simp at hy; rcases hy with rfl | rfl <;> assumption)]
theorem divN_dvN (x y : Int) : clampN (divN x y) = clampN (dvN x y) := by
  unfold divN dvN
  split
  · rfl
  · rw [clampN_clampN]
theorem ref_div (a1 a2 b1 b2 : Int) : refN 44 a1 a2 b1 b2 = ofN divN [-1, 0, 1] a1 a2 b1 b2 := by
  unfold refN
  by_cases hn : noneB a1 a2 = true ∨ noneB b1 b2 = true
  · rw [if_pos hn, ofN_none (by rw [noneB_true, noneB_true] at hn; exact hn)]
  · rw [if_neg hn]
    rw [noneB_true, noneB_true] at hn
    have m := clampN_mono (a := b1) (b := b2) (by omega)
    unfold refE
    rw [if_pos rfl, ← chain_append]
    have ho : oneW 44 = dvN := by funext x y; unfold oneW; simp
    refine hull_same' (chain_hull (List.ne_nil_of_mem (List.mem_append.2 (.inr (mem_valsOf.2 ⟨clampN a1, by simp, clampN b1, by simp, rfl⟩))))) (ofN_hull (by omega) (by omega)) fun c => ?_
    rw [List.mem_append, mem_valsOf, mem_spots, ho]
    have hopt : ∀ (b : Bool) (x y : Int), x ∈ opt b y ↔ b = true ∧ x = y := fun b x y => by unfold opt; split <;> simp_all
    simp only [List.mem_append, List.mem_cons, List.not_mem_nil, or_false, hopt, within_iff]
    have hz : ∀ x : Int, clampN (dvN x 0) = 0 := fun x => by unfold dvN; rw [if_pos rfl]; rfl
    have hz0 : clampN 0 = 0 := rfl
    rw [hz0]
    constructor
    · rintro (⟨⟨h1, h2⟩, rfl⟩ | ⟨x, hx, y, hy, rfl⟩)
      · exact ⟨clampN a1, .inl rfl, 0, .inr (.inr (.inr (.inl rfl))), ⟨h1, h2⟩, by rw [divN_dvN, hz]⟩
      · refine ⟨x, hx, y, ?_, ?_, divN_dvN x y⟩
        · rcases hy with (hy | ⟨_, rfl⟩) | ⟨_, rfl⟩
          · rcases hy with rfl | rfl <;> simp
          · simp
          · simp
        · rcases hy with (hy | ⟨h, rfl⟩) | ⟨h, rfl⟩
          · rcases hy with rfl | rfl <;> omega
          · exact h
          · exact h
    · rintro ⟨x, hx, y, hy, hw, rfl⟩
      rw [divN_dvN]
      rcases hy with rfl | rfl | rfl | rfl | rfl
      · exact .inr ⟨x, hx, _, .inl (.inl (.inl rfl)), rfl⟩
      · exact .inr ⟨x, hx, _, .inl (.inl (.inr rfl)), rfl⟩
      · exact .inr ⟨x, hx, _, .inr ⟨hw, rfl⟩, rfl⟩
      · exact .inl ⟨hw, hz x⟩
      · exact .inr ⟨x, hx, _, .inl (.inr ⟨hw, rfl⟩), rfl⟩
theorem ref_neg (a1 a2 : Int) : rnegN a1 a2 = ofN (· - ·) [] 0 0 a1 a2 := by
  unfold rnegN
  by_cases hn : noneB a1 a2 = true
  · rw [if_pos hn, ofN_none (.inr (noneB_true.1 hn))]
  · rw [if_neg hn]
    rw [noneB_true] at hn
    have m := clampN_mono (a := a1) (b := a2) (by omega)
    have r1 := clampN_range a1
    have r2 := clampN_range a2
    have hz0 : clampN 0 = 0 := rfl
    refine hull_same (l := [0 - clampN a2, 0 - clampN a1]) ⟨by simp, by simp, fun c hc => by simp at hc; simp only; rcases hc with rfl | rfl <;> omega⟩ (ofN_hull (by omega) (by omega)) (fun c hc => ?_) fun c hc => ?_
    · have hm : c ∈ spots (· - ·) [] 0 0 a1 a2 := by
        rw [mem_spots, hz0]
        simp only [List.mem_cons, List.not_mem_nil, or_false] at hc
        rcases hc with rfl | rfl
        · exact ⟨0, .inl rfl, clampN a2, .inr (.inl rfl), ⟨m, Int.le_refl _⟩, clampN_self (by omega)⟩
        · exact ⟨0, .inl rfl, clampN a1, .inl rfl, ⟨Int.le_refl _, m⟩, clampN_self (by omega)⟩
      exact ⟨⟨c, hm, Int.le_refl c⟩, c, hm, Int.le_refl c⟩
    · have hm : c ∈ [0 - clampN a2, 0 - clampN a1] := by
        rw [mem_spots, hz0] at hc
        obtain ⟨x, hx, y, hy, hw, rfl⟩ := hc
        have hx0 : x = 0 := by rcases hx with h | h <;> exact h
        subst hx0
        simp only [List.not_mem_nil, or_false] at hy
        rcases hy with rfl | rfl
        · have : clampN (0 - clampN a1) = 0 - clampN a1 := clampN_self (by omega)
          simp only [this]
          simp
        · have : clampN (0 - clampN a2) = 0 - clampN a2 := clampN_self (by omega)
          simp only [this]
          simp
      exact ⟨⟨c, hm, Int.le_refl c⟩, c, hm, Int.le_refl c⟩
end Go.Proofs.YtdnnjkneablfiaaGreatDoor

