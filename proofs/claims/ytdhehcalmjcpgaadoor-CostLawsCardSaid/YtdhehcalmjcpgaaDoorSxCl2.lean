/- CostLaws, by the shadow reading: it answers true (the law itself). -/
import Derived.Test.YtdhehcalmjcpgaaDoorSxCl
namespace Go.Proofs.YtdhehcalmjcpgaaDoor
open Go Go.Sx
set_option maxRecDepth 100000
set_option linter.unusedSimpArgs false
set_option linter.unusedVariables false

theorem G_within {n : Nat} {h : SHeap} {x m : Int} (hm : 0 < m) (hm2 : m < 9223372036854775808) : G (n + 1) 49 [.int .i64 x, .int .i64 m] h = some (.int .i64 (withinN x m), h) := by
  rw [G_at (by decide), within_walk hm hm2]

section
variable {n : Nat} {h : SHeap} {l : List Int}
theorem laws_short {v : Value} {c t : Int} (hv : IntsAt h v l) (hlen : l.length < 17592186044416) (h0 : h.get 0 = wordsRow) (hs : l.length < 2 ∨ l.length > 4096) :
    G (n + 2) 13 [v, .int .i64 c, .int .i64 t] h = some (.bool true, h) := by
  refine (G_at (by decide)).trans ?_
  refine call_is Tryd.func13 rfl (by simp [Tryd.f13]) ?_
  have hr : Tryd.f13.results.toList = [.tmp 6] := rfl
  have e48 := G_head (n := n) h0
  by_cases h2 : l.length < 2
  · have e1 : decide ((l.length : Int) < 2) = true := by simp; omega
    simp only [wk_seq, wk_block, wk_region, wkl_nil, wkl_cons, wk_cond, wkc_bool, wk_skip, wk_exit, wk_ret, ap_top, ap_seqN, ap_seqE, ap_seqR, ap_blkN, ap_blkE, ap_blkR, ap_invN, ap_invE, ap_invR, want_none, sop, wkr_some, wkr_map, wko_some, ev_tmp, ev_const, ev_func, tmps0, Tr.get_put, Tr.get_set, get_leaf, callS, evs, List.map_cons, List.map_nil, ↓reduceIte, Option.some.injEq, Nat.reduceEqDiff, bin_lss, bin_leq, bin_gtr, bin_geq, bin_eql, bin_neq, bin_add, bin_sub, bin_mul, max2, min2, resS, resV, decide_eq_true_eq, decide_eq_false_iff_not, beq_iff_eq, true_and, and_true, or_true, true_or, exists_eq_left', Option.map_some, Option.map_none, want_some, Option.bind_some, reduceCtorEq, List.nil_append, List.append_nil, List.cons_append, Value.int.injEq, wantD_some, List.getElem?_toArray, List.getElem?_cons_succ, List.getElem?_cons_zero, decide_true, decide_false, beq_self_eq_true, wantG_true, wantG_false, Bool.not_true, Bool.not_false, Bool.false_eq_true, if_true, if_false, flat_bool, flat_int, pure_not, pure_neg, ↓wk_tt, ↓wk_ff, false_implies, true_implies, wantG_undef, hr, hv.len Tryd.underlying28, e1, e48]
  · have e1 : decide ((l.length : Int) < 2) = false := by simp; omega
    have e2 : decide ((l.length : Int) > 4096) = true := by simp; omega
    simp only [wk_seq, wk_block, wk_region, wkl_nil, wkl_cons, wk_cond, wkc_bool, wk_skip, wk_exit, wk_ret, ap_top, ap_seqN, ap_seqE, ap_seqR, ap_blkN, ap_blkE, ap_blkR, ap_invN, ap_invE, ap_invR, want_none, sop, wkr_some, wkr_map, wko_some, ev_tmp, ev_const, ev_func, tmps0, Tr.get_put, Tr.get_set, get_leaf, callS, evs, List.map_cons, List.map_nil, ↓reduceIte, Option.some.injEq, Nat.reduceEqDiff, bin_lss, bin_leq, bin_gtr, bin_geq, bin_eql, bin_neq, bin_add, bin_sub, bin_mul, max2, min2, resS, resV, decide_eq_true_eq, decide_eq_false_iff_not, beq_iff_eq, true_and, and_true, or_true, true_or, exists_eq_left', Option.map_some, Option.map_none, want_some, Option.bind_some, reduceCtorEq, List.nil_append, List.append_nil, List.cons_append, Value.int.injEq, wantD_some, List.getElem?_toArray, List.getElem?_cons_succ, List.getElem?_cons_zero, decide_true, decide_false, beq_self_eq_true, wantG_true, wantG_false, Bool.not_true, Bool.not_false, Bool.false_eq_true, if_true, if_false, flat_bool, flat_int, pure_not, pure_neg, ↓wk_tt, ↓wk_ff, false_implies, true_implies, wantG_undef, hr, hv.len Tryd.underlying28, e1, e2, e48]

set_option maxHeartbeats 4000000 in
theorem laws_long {id off cap : Nat} {c t : Int} (hv : IntsAt h (.slice (some ⟨id, off, none⟩) l.length cap) l) (hcap : l.length ≤ cap) (hcap2 : cap < unk) (hid : id < h.next) (hl : In64 l) (hn : 4096 < n) (hw : wf h) (hf : h.floor ≤ h.next) (h0 : h.get 0 = wordsRow)
    (hs : 2 ≤ l.length ∧ l.length ≤ 4096) : ∃ h', G (n + 4) 13 [.slice (some ⟨id, off, none⟩) l.length cap, .int .i64 c, .int .i64 t] h = some (.bool true, h') := by
  obtain ⟨hs1, hs2⟩ := hs
  have hlt0 : 0 < h.next := row_lt h0
  have e1 : decide ((l.length : Int) < 2) = false := by simp; omega
  have e2 : decide ((l.length : Int) > 4096) = false := by simp; omega
  have w1 : IntKind.i64.wrap ((l.length : Int) - 1) = (l.length : Int) - 1 := wrap_id (by omega) (by omega)
  have ew : ∀ (h : SHeap) (x : Int), G (n + 3) 49 [.int .i64 x, .int .i64 ((l.length : Int) - 1)] h = _ := fun h x => G_within (n := n + 2) (h := h) (x := x) (m := (l.length : Int) - 1) (by omega) (by omega)
  have ew2 : ∀ (h : SHeap) (x : Int), G (n + 3) 49 [.int .i64 x, .int .i64 (l.length : Int)] h = _ := fun h x => G_within (n := n + 2) (h := h) (x := x) (m := (l.length : Int)) (by omega) (by omega)
  obtain ⟨cu, hcu, hcu1, hcu2⟩ : ∃ cu : Nat, 1 + withinN c ((l.length : Int) - 1) = (cu : Int) ∧ 1 ≤ cu ∧ cu < l.length := by
    have := within_range (x := c) (n := (l.length : Int) - 1) (by omega)
    exact ⟨(1 + withinN c ((l.length : Int) - 1)).toNat, by omega, by omega, by omega⟩
  have w2 : IntKind.i64.wrap (1 + withinN c ((l.length : Int) - 1)) = (cu : Int) := by rw [hcu]; exact wrap_id (by omega) (by omega)
  obtain ⟨tw, htw, htw1⟩ : ∃ tw : Nat, withinN t (l.length : Int) = (tw : Int) ∧ tw < l.length := by
    have := within_range (x := t) (n := (l.length : Int)) (by omega)
    exact ⟨(withinN t (l.length : Int)).toNat, by omega, by omega⟩
  have plo := fun (h : SHeap) => part_lo (h := h) (id := id) (off := off) (len := l.length) (cap := cap) (k := cu) (by omega) hcap hcap2
  have phi := fun (h : SHeap) => part_hi (h := h) (id := id) (off := off) (len := l.length) (cap := cap) (k := cu) hcu2 hcap hcap2
  have parts := fun (h : SHeap) (hv : IntsAt h (.slice (some ⟨id, off, none⟩) l.length cap) l) => part_ints (k := cu) hv rfl (by omega)
  have hlen28 := fun (h : SHeap) (hv : IntsAt h (.slice (some ⟨id, off, none⟩) l.length cap) l) => hv.len Tryd.underlying28
  have hidx := fun (h : SHeap) (hv : IntsAt h (.slice (some ⟨id, off, none⟩) l.length cap) l) (k : Nat) (x : Int) (hx : l[k]? = some x) => hv.idx Tryd.underlying28 sz3 agg3 hx (kd := .i64)
  have hidv : idOf (.slice (some ⟨id, off, none⟩) l.length cap) = some id := rfl
  generalize hv0 : Value.slice (some ⟨id, off, none⟩) l.length cap = v at *
  suffices hx : ∃ h', bodyF Tryd.prog (G (n + 3)) (n + 3) 13 [v, .int .i64 c, .int .i64 t] h = some (.bool true, h') ∧ True by
    obtain ⟨h', hx, _⟩ := hx
    exact ⟨h', (G_at (by decide)).trans hx⟩
  refine call_ex (R := fun _ => True) Tryd.func13 rfl (by simp [Tryd.f13]) ?_
  have hr : Tryd.f13.results.toList = [.tmp 6] := rfl
  simp only [wk_seq, wk_block, wk_region, wkl_nil, wkl_cons, wk_cond, wkc_bool, wk_skip, wk_exit, wk_ret, ap_top, ap_seqN, ap_seqE, ap_seqR, ap_blkN, ap_blkE, ap_blkR, ap_invN, ap_invE, ap_invR, want_none, sop, wkr_some, wkr_map, wko_some, ev_tmp, ev_const, ev_func, tmps0, Tr.get_put, Tr.get_set, get_leaf, callS, evs, List.map_cons, List.map_nil, ↓reduceIte, Option.some.injEq, Nat.reduceEqDiff, bin_lss, bin_leq, bin_gtr, bin_geq, bin_eql, bin_neq, bin_add, bin_sub, bin_mul, max2, min2, resS, resV, decide_eq_true_eq, decide_eq_false_iff_not, beq_iff_eq, true_and, and_true, or_true, true_or, exists_eq_left', Option.map_some, Option.map_none, want_some, Option.bind_some, reduceCtorEq, List.nil_append, List.append_nil, List.cons_append, Value.int.injEq, wantD_some, List.getElem?_toArray, List.getElem?_cons_succ, List.getElem?_cons_zero, decide_true, decide_false, beq_self_eq_true, wantG_true, wantG_false, Bool.not_true, Bool.not_false, Bool.false_eq_true, if_true, if_false, flat_bool, flat_int, pure_not, pure_neg, ↓wk_tt, ↓wk_ff, false_implies, true_implies, wantG_undef, hr, hlen28 h hv, e1, e2, w1, ew, w2]
  refine WK.loop (fun k s => wf s.h ∧ s.h.floor = h.floor ∧ h.next ≤ s.h.next ∧ (∀ i, i < h.next → s.h.get i = h.get i) ∧ s.T.get 0 = v ∧ s.T.get 1 = .int .i64 cu ∧ s.T.get 2 = .int .i64 t ∧ s.T.get 7 = .int .i64 l.length ∧ s.T.get 9 = .int .i64 k ∧ Grown h.next s.h (s.T.get 8) ((rot l tw).take k)) l.length (by omega) ?_ ?_
  · simp only [wk_seq, wk_block, wk_region, wkl_nil, wkl_cons, wk_cond, wkc_bool, wk_skip, wk_exit, wk_ret, ap_top, ap_seqN, ap_seqE, ap_seqR, ap_blkN, ap_blkE, ap_blkR, ap_invN, ap_invE, ap_invR, want_none, sop, wkr_some, wkr_map, wko_some, ev_tmp, ev_const, ev_func, tmps0, Tr.get_put, Tr.get_set, get_leaf, callS, evs, List.map_cons, List.map_nil, ↓reduceIte, Option.some.injEq, Nat.reduceEqDiff, bin_lss, bin_leq, bin_gtr, bin_geq, bin_eql, bin_neq, bin_add, bin_sub, bin_mul, max2, min2, resS, resV, decide_eq_true_eq, decide_eq_false_iff_not, beq_iff_eq, true_and, and_true, or_true, true_or, exists_eq_left', Option.map_some, Option.map_none, want_some, Option.bind_some, reduceCtorEq, List.nil_append, List.append_nil, List.cons_append, Value.int.injEq, wantD_some, List.getElem?_toArray, List.getElem?_cons_succ, List.getElem?_cons_zero, decide_true, decide_false, beq_self_eq_true, wantG_true, wantG_false, Bool.not_true, Bool.not_false, Bool.false_eq_true, if_true, if_false, flat_bool, flat_int, pure_not, pure_neg, ↓wk_tt, ↓wk_ff, false_implies, true_implies, wantG_undef]
    exact ⟨hw, Nat.le_refl _, fun _ _ => trivial, rfl, .inl ⟨rfl, rfl⟩⟩
  · rintro k ⟨T, h1⟩ hk ⟨i1, i2, i3, i4, t0, t1, t2, t7, t9, gr⟩
    simp only at i1 i2 i3 i4 t0 t1 t2 t7 t9 gr
    have hv1 : IntsAt h1 v l := IntsAt.mono hv i4
    by_cases hlt : k < l.length
    · have c1 : decide ((k : Int) < (l.length : Int)) = true := by simp; omega
      have w3 : IntKind.i64.wrap ((k : Int) + withinN t (l.length : Int)) = (k : Int) + (tw : Int) := by rw [htw]; exact wrap_id (by omega) (by omega)
      have hmod : Int.tmod ((k : Int) + (tw : Int)) (l.length : Int) = (((k + tw) % l.length : Nat) : Int) := rfl
      have hml : (k + tw) % l.length < l.length := Nat.mod_lt _ (by omega)
      obtain ⟨x, hx⟩ : ∃ x, l[(k + tw) % l.length]? = some x := ⟨_, List.getElem?_eq_getElem hml⟩
      have hx2 : (rot l tw)[k]? = some x := by rw [rot_get htw1 hlt]; exact hx
      obtain ⟨p, hp1, hp2⟩ := hidx h1 hv1 _ x hx
      generalize hv8 : T.get 8 = v8 at gr
      obtain ⟨v', h', hbs, hap, gr', g1, g2, g3, g4⟩ := grown_append (x := x) gr i1 (by rw [i2]; exact hf) i3 (by simp; omega)
      have w4 : IntKind.i64.wrap ((k : Int) + 1) = ((k + 1 : Nat) : Int) := wrap_id (by omega) (by omega)
      simp only [wk_seq, wk_block, wk_region, wkl_nil, wkl_cons, wk_cond, wkc_bool, wk_skip, wk_exit, wk_ret, ap_top, ap_seqN, ap_seqE, ap_seqR, ap_blkN, ap_blkE, ap_blkR, ap_invN, ap_invE, ap_invR, want_none, sop, wkr_some, wkr_map, wko_some, ev_tmp, ev_const, ev_func, tmps0, Tr.get_put, Tr.get_set, get_leaf, callS, evs, List.map_cons, List.map_nil, ↓reduceIte, Option.some.injEq, Nat.reduceEqDiff, bin_lss, bin_leq, bin_gtr, bin_geq, bin_eql, bin_neq, bin_add, bin_sub, bin_mul, max2, min2, resS, resV, decide_eq_true_eq, decide_eq_false_iff_not, beq_iff_eq, true_and, and_true, or_true, true_or, exists_eq_left', Option.map_some, Option.map_none, want_some, Option.bind_some, reduceCtorEq, List.nil_append, List.append_nil, List.cons_append, Value.int.injEq, wantD_some, List.getElem?_toArray, List.getElem?_cons_succ, List.getElem?_cons_zero, decide_true, decide_false, beq_self_eq_true, wantG_true, wantG_false, Bool.not_true, Bool.not_false, Bool.false_eq_true, if_true, if_false, flat_bool, flat_int, pure_not, pure_neg, ↓wk_tt, ↓wk_ff, false_implies, true_implies, wantG_undef, t0, t1, t2, t7, t9, hv8, c1, ew2, w3, bin_rem (show (l.length : Int) ≠ 0 by omega), hmod, hp1, hp2, hbs, hap, w4]
      refine ⟨hlt, g1, by rw [g2, i2], by omega, fun i hi => by rw [g4 i hi, i4 i hi], ?_⟩
      rw [List.take_add_one, hx2]
      exact gr'
    · have c1 : decide ((k : Int) < (l.length : Int)) = false := by simp; omega
      have hkl : k = l.length := by omega
      subst hkl
      have hrl : (rot l tw).take l.length = rot l tw := List.take_of_length_le (by rw [rot_len]; omega)
      rw [hrl] at gr
      have hrv := gr.ints
      have e43 : G (n + 3) 43 [v] h1 = _ := G_sum (n := n + 2) hv1 hl (by omega) (by omega)
      have e44 : G (n + 3) 44 [v] h1 = _ := G_times (n := n + 1) hv1 hl (by omega) (by omega)
      have e43r : G (n + 3) 43 [T.get 8] h1 = _ := G_sum (n := n + 2) hrv (rot_in hl) (by rw [rot_len]; omega) (by rw [rot_len]; omega)
      have e44r : G (n + 3) 44 [T.get 8] h1 = _ := G_times (n := n + 1) hrv (rot_in hl) (by rw [rot_len]; omega) (by rw [rot_len]; omega)
      rw [satSum_rot] at e43r
      rw [satTimes_rot] at e44r
      have n1 : (satSum l != satSum l) = false := by simp
      have n2 : (satTimes l != satTimes l) = false := by simp
      simp only [wk_seq, wk_block, wk_region, wkl_nil, wkl_cons, wk_cond, wkc_bool, wk_skip, wk_exit, wk_ret, ap_top, ap_seqN, ap_seqE, ap_seqR, ap_blkN, ap_blkE, ap_blkR, ap_invN, ap_invE, ap_invR, want_none, sop, wkr_some, wkr_map, wko_some, ev_tmp, ev_const, ev_func, tmps0, Tr.get_put, Tr.get_set, get_leaf, callS, evs, List.map_cons, List.map_nil, ↓reduceIte, Option.some.injEq, Nat.reduceEqDiff, bin_lss, bin_leq, bin_gtr, bin_geq, bin_eql, bin_neq, bin_add, bin_sub, bin_mul, max2, min2, resS, resV, decide_eq_true_eq, decide_eq_false_iff_not, beq_iff_eq, true_and, and_true, or_true, true_or, exists_eq_left', Option.map_some, Option.map_none, want_some, Option.bind_some, reduceCtorEq, List.nil_append, List.append_nil, List.cons_append, Value.int.injEq, wantD_some, List.getElem?_toArray, List.getElem?_cons_succ, List.getElem?_cons_zero, decide_true, decide_false, beq_self_eq_true, wantG_true, wantG_false, Bool.not_true, Bool.not_false, Bool.false_eq_true, if_true, if_false, flat_bool, flat_int, pure_not, pure_neg, ↓wk_tt, ↓wk_ff, false_implies, true_implies, wantG_undef, t0, t1, t2, t7, t9, c1, e43, e44, e43r, e44r, n1, n2]
      have hsnx : SnxOK (G (n + 3)) := (callG_ok progOK_prog base10_ok.1 base10_ok.2 (n + 3)).2
      obtain ⟨pl, ph⟩ := parts h1 hv1
      have inlo : In64 (l.take cu) := fun x hx => hl x (List.mem_of_mem_take hx)
      have inhi : In64 (l.drop cu) := fun x hx => hl x (List.mem_of_mem_drop hx)
      have r1 := satSum_range (l.take cu)
      have r2 := satSum_range (l.drop cu)
      have r3 := satTimes_range (l.take cu)
      have r4 := satTimes_range (l.drop cu)
      have pS := satSum_parts (l.take cu) (l.drop cu)
      have pT := satTimes_parts (l.take cu) (l.drop cu)
      rw [List.take_append_drop] at pS pT
      have lent : (l.take cu).length ≤ l.length := by simp; omega
      have lend : (l.drop cu).length ≤ l.length := by simp
      have q1 : ∀ f, G (n + 3) 43 [.slice (some ⟨id, off, none⟩) cu cap] (h1.fl f) = _ := fun f => G_sum (n := n + 2) (h := h1.fl f) pl inlo (by omega) (by omega)
      have q2 : G (n + 3) 43 [.slice (some ⟨id, off + cu, none⟩) (l.length - cu) (cap - cu)] h1 = _ := G_sum (n := n + 2) ph inhi (by omega) (by omega)
      generalize satSum (l.take cu) = sa at *
      generalize satSum (l.drop cu) = sb at *
      have b2 := two_build (a := sa) (b := sb) i1
      have j2 := two_ints (h := h1) (a := sa) (b := sb)
      have m2 : ∀ i, i < h1.next → (h1.push (.row [.int .i64 sa, .int .i64 sb] 3 false false)).get i = h1.get i := fun i hi => get_push_old hi
      have f2 : (h1.push (.row [.int .i64 sa, .int .i64 sb] 3 false false)).fl h1.floor = h1.push (.row [.int .i64 sa, .int .i64 sb] 3 false false) := rfl
      have g2 : wf (h1.push (.row [.int .i64 sa, .int .i64 sb] 3 false false)) := rfl
      generalize h1.push (.row [.int .i64 sa, .int .i64 sb] 3 false false) = h2 at *
      have q3 : G (n + 3) 43 [.slice (some ⟨h1.next, 0, none⟩) 2 2] h2 = _ := G_sum (n := n + 2) j2 (fun x hx => by simp at hx; rcases hx with rfl | rfl <;> omega) (by simp) (by simp; omega)
      rw [pS] at q3
      have hv2 : IntsAt h2 v l := IntsAt.mono hv1 m2
      obtain ⟨pl2, ph2⟩ := parts h2 hv2
      have q4 : ∀ f, G (n + 3) 44 [.slice (some ⟨id, off, none⟩) cu cap] (h2.fl f) = _ := fun f => G_times (n := n + 1) (h := h2.fl f) pl2 inlo (by omega) (by omega)
      have q5 : G (n + 3) 44 [.slice (some ⟨id, off + cu, none⟩) (l.length - cu) (cap - cu)] h2 = _ := G_times (n := n + 1) ph2 inhi (by omega) (by omega)
      generalize satTimes (l.take cu) = ta at *
      generalize satTimes (l.drop cu) = tb at *
      have b3 := two_build (h := h2) (a := ta) (b := tb) g2
      have j3 := two_ints (h := h2) (a := ta) (b := tb)
      have m3 : ∀ i, i < h2.next → (h2.push (.row [.int .i64 ta, .int .i64 tb] 3 false false)).get i = h2.get i := fun i hi => get_push_old hi
      have f3 : (h2.push (.row [.int .i64 ta, .int .i64 tb] 3 false false)).fl h2.floor = h2.push (.row [.int .i64 ta, .int .i64 tb] 3 false false) := rfl
      generalize h2.push (.row [.int .i64 ta, .int .i64 tb] 3 false false) = h3 at *
      have q6 : G (n + 3) 44 [.slice (some ⟨h2.next, 0, none⟩) 2 2] h3 = _ := G_times (n := n + 1) j3 (fun x hx => by simp at hx; rcases hx with rfl | rfl <;> omega) (by simp) (by simp; omega)
      rw [pT] at q6
      have hv3 : IntsAt h3 v l := IntsAt.mono hv2 m3
      have hah : ∀ m, h1.next ≤ m → Sx.ahead m (idOf v) = true := fun m hm => by rw [hidv]; simp [Sx.ahead]; omega
      have hah1 := hah h1.next (Nat.le_refl _)
      refine WK.flags (fs := [(true, true, []), (false, true, []), (false, true, []), (false, true, []), (false, true, []), (true, true, [.tmp 62]), (true, true, [.tmp 62]), (true, true, [.tmp 62]), (false, false, []), (false, false, []), (false, false, []), (false, false, []), (false, false, []), (true, true, []), (false, true, []), (false, true, []), (false, true, []), (false, true, []), (true, true, [.tmp 75]), (true, true, [.tmp 75]), (true, true, [.tmp 75]), (false, false, []), (false, false, []), (false, false, []), (false, false, []), (false, false, [])]) (by kernel_rfl) ?_
      iterate 26 (refine WKF.cons (fun v h' hh hs => (sop_snx hsnx hs).floor) ?_; simp only [wk_seq, wk_block, wk_region, wkl_nil, wkl_cons, wk_cond, wkc_bool, wk_skip, wk_exit, wk_ret, ap_top, ap_seqN, ap_seqE, ap_seqR, ap_blkN, ap_blkE, ap_blkR, ap_invN, ap_invE, ap_invR, want_none, sop, wkr_some, wkr_map, wko_some, ev_tmp, ev_const, ev_func, tmps0, Tr.get_put, Tr.get_set, get_leaf, callS, evs, List.map_cons, List.map_nil, ↓reduceIte, Option.some.injEq, Nat.reduceEqDiff, bin_lss, bin_leq, bin_gtr, bin_geq, bin_eql, bin_neq, bin_add, bin_sub, bin_mul, max2, min2, resS, resV, decide_eq_true_eq, decide_eq_false_iff_not, beq_iff_eq, true_and, and_true, or_true, true_or, exists_eq_left', Option.map_some, Option.map_none, want_some, Option.bind_some, reduceCtorEq, List.nil_append, List.append_nil, List.cons_append, Value.int.injEq, wantD_some, List.getElem?_toArray, List.getElem?_cons_succ, List.getElem?_cons_zero, decide_true, decide_false, beq_self_eq_true, wantG_true, wantG_false, Bool.not_true, Bool.not_false, Bool.false_eq_true, if_true, if_false, flat_bool, flat_int, pure_not, pure_neg, ↓wk_tt, ↓wk_ff, false_implies, true_implies, wantG_undef, WKFC, clsOf, notMap, wkfr_some, wkf_nil, fl_fl, fl_self, f2, f3, t0, t1, t2, t7, t9, plo, phi, q1, q2, q3, q4, q5, q6, b2, b3, n1, n2, hah1])
      have hg3 : h3.get 0 = wordsRow := by
        have e2 : 0 < h1.next := by omega
        rw [m3 0 (row_lt (by rw [m2 0 e2, i4 0 hlt0]; exact h0)), m2 0 e2, i4 0 hlt0]
        exact h0
      have e48 : G (n + 3) 48 [] h3 = _ := G_head (n := n + 2) hg3
      have rS := satSum_range l
      have rT := satTimes_range l
      have geS := fun k x hx => satSum_ge (l := l) (k := k) (x := x) hx
      have geT := fun hp k x hx => satTimes_ge (l := l) (k := k) (x := x) hp hx
      clear q1 q2 q3 q4 q5 q6 b2 b3 e43 e44 e43r e44r pS pT f2 f3 j2 j3 plo phi parts ew ew2
      generalize satSum l = a at *
      generalize satTimes l = b at *
      refine WK.loop (fun k s => s.h = h3 ∧ s.T.get 0 = v ∧ s.T.get 7 = .int .i64 l.length ∧ s.T.get 10 = .int .i64 a ∧ s.T.get 11 = .int .i64 b ∧ s.T.get 13 = .int .i64 k ∧ s.T.get 12 = .bool (allPos (l.take k))) l.length (by omega) ?_ ?_
      · simp only [wk_seq, wk_block, wk_region, wkl_nil, wkl_cons, wk_cond, wkc_bool, wk_skip, wk_exit, wk_ret, ap_top, ap_seqN, ap_seqE, ap_seqR, ap_blkN, ap_blkE, ap_blkR, ap_invN, ap_invE, ap_invR, want_none, sop, wkr_some, wkr_map, wko_some, ev_tmp, ev_const, ev_func, tmps0, Tr.get_put, Tr.get_set, get_leaf, callS, evs, List.map_cons, List.map_nil, ↓reduceIte, Option.some.injEq, Nat.reduceEqDiff, bin_lss, bin_leq, bin_gtr, bin_geq, bin_eql, bin_neq, bin_add, bin_sub, bin_mul, max2, min2, resS, resV, decide_eq_true_eq, decide_eq_false_iff_not, beq_iff_eq, true_and, and_true, or_true, true_or, exists_eq_left', Option.map_some, Option.map_none, want_some, Option.bind_some, reduceCtorEq, List.nil_append, List.append_nil, List.cons_append, Value.int.injEq, wantD_some, List.getElem?_toArray, List.getElem?_cons_succ, List.getElem?_cons_zero, decide_true, decide_false, beq_self_eq_true, wantG_true, wantG_false, Bool.not_true, Bool.not_false, Bool.false_eq_true, if_true, if_false, flat_bool, flat_int, pure_not, pure_neg, ↓wk_tt, ↓wk_ff, false_implies, true_implies, wantG_undef, t0, t7]
        exact ⟨rfl, rfl⟩
      · rintro k ⟨T2, h4⟩ hk ⟨rfl, u0, u7, u10, u11, u13, u12⟩
        simp only at u0 u7 u10 u11 u13 u12
        by_cases hlt : k < l.length
        · have c1 : decide ((k : Int) < (l.length : Int)) = true := by simp; omega
          obtain ⟨x, hx⟩ : ∃ x, l[k]? = some x := ⟨_, List.getElem?_eq_getElem hlt⟩
          have htk := allPos_take hx
          obtain ⟨p, hp1, hp2⟩ := hidx h4 hv3 _ x hx
          have w4 : IntKind.i64.wrap ((k : Int) + 1) = ((k + 1 : Nat) : Int) := wrap_id (by omega) (by omega)
          cases hpos : allPos (l.take k) with
          | true =>
            rw [hpos] at u12 htk
            simp only [wk_seq, wk_block, wk_region, wkl_nil, wkl_cons, wk_cond, wkc_bool, wk_skip, wk_exit, wk_ret, ap_top, ap_seqN, ap_seqE, ap_seqR, ap_blkN, ap_blkE, ap_blkR, ap_invN, ap_invE, ap_invR, want_none, sop, wkr_some, wkr_map, wko_some, ev_tmp, ev_const, ev_func, tmps0, Tr.get_put, Tr.get_set, get_leaf, callS, evs, List.map_cons, List.map_nil, ↓reduceIte, Option.some.injEq, Nat.reduceEqDiff, bin_lss, bin_leq, bin_gtr, bin_geq, bin_eql, bin_neq, bin_add, bin_sub, bin_mul, max2, min2, resS, resV, decide_eq_true_eq, decide_eq_false_iff_not, beq_iff_eq, true_and, and_true, or_true, true_or, exists_eq_left', Option.map_some, Option.map_none, want_some, Option.bind_some, reduceCtorEq, List.nil_append, List.append_nil, List.cons_append, Value.int.injEq, wantD_some, List.getElem?_toArray, List.getElem?_cons_succ, List.getElem?_cons_zero, decide_true, decide_false, beq_self_eq_true, wantG_true, wantG_false, Bool.not_true, Bool.not_false, Bool.false_eq_true, if_true, if_false, flat_bool, flat_int, pure_not, pure_neg, ↓wk_tt, ↓wk_ff, false_implies, true_implies, wantG_undef, u0, u7, u10, u11, u13, u12, c1, hp1, hp2, w4, htk, Bool.true_and]
            exact hlt
          | false =>
            rw [hpos] at u12 htk
            simp only [wk_seq, wk_block, wk_region, wkl_nil, wkl_cons, wk_cond, wkc_bool, wk_skip, wk_exit, wk_ret, ap_top, ap_seqN, ap_seqE, ap_seqR, ap_blkN, ap_blkE, ap_blkR, ap_invN, ap_invE, ap_invR, want_none, sop, wkr_some, wkr_map, wko_some, ev_tmp, ev_const, ev_func, tmps0, Tr.get_put, Tr.get_set, get_leaf, callS, evs, List.map_cons, List.map_nil, ↓reduceIte, Option.some.injEq, Nat.reduceEqDiff, bin_lss, bin_leq, bin_gtr, bin_geq, bin_eql, bin_neq, bin_add, bin_sub, bin_mul, max2, min2, resS, resV, decide_eq_true_eq, decide_eq_false_iff_not, beq_iff_eq, true_and, and_true, or_true, true_or, exists_eq_left', Option.map_some, Option.map_none, want_some, Option.bind_some, reduceCtorEq, List.nil_append, List.append_nil, List.cons_append, Value.int.injEq, wantD_some, List.getElem?_toArray, List.getElem?_cons_succ, List.getElem?_cons_zero, decide_true, decide_false, beq_self_eq_true, wantG_true, wantG_false, Bool.not_true, Bool.not_false, Bool.false_eq_true, if_true, if_false, flat_bool, flat_int, pure_not, pure_neg, ↓wk_tt, ↓wk_ff, false_implies, true_implies, wantG_undef, u0, u7, u10, u11, u13, u12, c1, hp1, hp2, w4, htk, Bool.false_and]
            exact hlt
        · have c1 : decide ((k : Int) < (l.length : Int)) = false := by simp; omega
          have hkl : k = l.length := by omega
          subst hkl
          rw [List.take_length] at u12
          simp only [wk_seq, wk_block, wk_region, wkl_nil, wkl_cons, wk_cond, wkc_bool, wk_skip, wk_exit, wk_ret, ap_top, ap_seqN, ap_seqE, ap_seqR, ap_blkN, ap_blkE, ap_blkR, ap_invN, ap_invE, ap_invR, want_none, sop, wkr_some, wkr_map, wko_some, ev_tmp, ev_const, ev_func, tmps0, Tr.get_put, Tr.get_set, get_leaf, callS, evs, List.map_cons, List.map_nil, ↓reduceIte, Option.some.injEq, Nat.reduceEqDiff, bin_lss, bin_leq, bin_gtr, bin_geq, bin_eql, bin_neq, bin_add, bin_sub, bin_mul, max2, min2, resS, resV, decide_eq_true_eq, decide_eq_false_iff_not, beq_iff_eq, true_and, and_true, or_true, true_or, exists_eq_left', Option.map_some, Option.map_none, want_some, Option.bind_some, reduceCtorEq, List.nil_append, List.append_nil, List.cons_append, Value.int.injEq, wantD_some, List.getElem?_toArray, List.getElem?_cons_succ, List.getElem?_cons_zero, decide_true, decide_false, beq_self_eq_true, wantG_true, wantG_false, Bool.not_true, Bool.not_false, Bool.false_eq_true, if_true, if_false, flat_bool, flat_int, pure_not, pure_neg, ↓wk_tt, ↓wk_ff, false_implies, true_implies, wantG_undef, u0, u7, u10, u11, u13, u12, c1]
          refine WK.loop (fun k s => s.h = h4 ∧ s.T.get 0 = v ∧ s.T.get 7 = .int .i64 l.length ∧ s.T.get 10 = .int .i64 a ∧ s.T.get 11 = .int .i64 b ∧ s.T.get 14 = .int .i64 k ∧ s.T.get 12 = .bool (allPos l)) l.length (by omega) ?_ ?_
          · simp only [wk_seq, wk_block, wk_region, wkl_nil, wkl_cons, wk_cond, wkc_bool, wk_skip, wk_exit, wk_ret, ap_top, ap_seqN, ap_seqE, ap_seqR, ap_blkN, ap_blkE, ap_blkR, ap_invN, ap_invE, ap_invR, want_none, sop, wkr_some, wkr_map, wko_some, ev_tmp, ev_const, ev_func, tmps0, Tr.get_put, Tr.get_set, get_leaf, callS, evs, List.map_cons, List.map_nil, ↓reduceIte, Option.some.injEq, Nat.reduceEqDiff, bin_lss, bin_leq, bin_gtr, bin_geq, bin_eql, bin_neq, bin_add, bin_sub, bin_mul, max2, min2, resS, resV, decide_eq_true_eq, decide_eq_false_iff_not, beq_iff_eq, true_and, and_true, or_true, true_or, exists_eq_left', Option.map_some, Option.map_none, want_some, Option.bind_some, reduceCtorEq, List.nil_append, List.append_nil, List.cons_append, Value.int.injEq, wantD_some, List.getElem?_toArray, List.getElem?_cons_succ, List.getElem?_cons_zero, decide_true, decide_false, beq_self_eq_true, wantG_true, wantG_false, Bool.not_true, Bool.not_false, Bool.false_eq_true, if_true, if_false, flat_bool, flat_int, pure_not, pure_neg, ↓wk_tt, ↓wk_ff, false_implies, true_implies, wantG_undef, u0, u7, u10, u11, u12]
            rfl
          · rintro k ⟨T3, h5⟩ hk ⟨rfl, u0, u7, u10, u11, u14, u12⟩
            simp only at u0 u7 u10 u11 u14 u12
            by_cases hlt : k < l.length
            · have c1 : decide ((k : Int) < (l.length : Int)) = true := by simp; omega
              obtain ⟨x, hx⟩ : ∃ x, l[k]? = some x := ⟨_, List.getElem?_eq_getElem hlt⟩
              obtain ⟨p, hp1, hp2⟩ := hidx h5 hv3 _ x hx
              have w4 : IntKind.i64.wrap ((k : Int) + 1) = ((k + 1 : Nat) : Int) := wrap_id (by omega) (by omega)
              have gS := geS k x hx
              have gT := fun hp => geT hp k x hx
              have aS : (decide (a < x) = false) ∨ (decide (a < x) = true ∧ (a != 4611686018427387904) = false) := by
                by_cases hax : a < x
                · right; exact ⟨by simpa using hax, by simp; omega⟩
                · left; simpa using hax
              have aT : allPos l = true → (decide (b < x) = false) ∨ (decide (b < x) = true ∧ (b != 4611686018427387904) = false) := fun hp => by
                have gT := gT hp
                by_cases hbx : b < x
                · right; exact ⟨by simpa using hbx, by simp; omega⟩
                · left; simpa using hbx
              cases hpos : allPos l with
              | true =>
                rw [hpos] at u12
                rcases aS with d1 | ⟨d1, d2⟩ <;> rcases aT hpos with d3 | ⟨d3, d4⟩
                · simp only [wk_seq, wk_block, wk_region, wkl_nil, wkl_cons, wk_cond, wkc_bool, wk_skip, wk_exit, wk_ret, ap_top, ap_seqN, ap_seqE, ap_seqR, ap_blkN, ap_blkE, ap_blkR, ap_invN, ap_invE, ap_invR, want_none, sop, wkr_some, wkr_map, wko_some, ev_tmp, ev_const, ev_func, tmps0, Tr.get_put, Tr.get_set, get_leaf, callS, evs, List.map_cons, List.map_nil, ↓reduceIte, Option.some.injEq, Nat.reduceEqDiff, bin_lss, bin_leq, bin_gtr, bin_geq, bin_eql, bin_neq, bin_add, bin_sub, bin_mul, max2, min2, resS, resV, decide_eq_true_eq, decide_eq_false_iff_not, beq_iff_eq, true_and, and_true, or_true, true_or, exists_eq_left', Option.map_some, Option.map_none, want_some, Option.bind_some, reduceCtorEq, List.nil_append, List.append_nil, List.cons_append, Value.int.injEq, wantD_some, List.getElem?_toArray, List.getElem?_cons_succ, List.getElem?_cons_zero, decide_true, decide_false, beq_self_eq_true, wantG_true, wantG_false, Bool.not_true, Bool.not_false, Bool.false_eq_true, if_true, if_false, flat_bool, flat_int, pure_not, pure_neg, ↓wk_tt, ↓wk_ff, false_implies, true_implies, wantG_undef, u0, u7, u10, u11, u14, u12, c1, hp1, hp2, w4, d1, d3]; exact hlt
                · simp only [wk_seq, wk_block, wk_region, wkl_nil, wkl_cons, wk_cond, wkc_bool, wk_skip, wk_exit, wk_ret, ap_top, ap_seqN, ap_seqE, ap_seqR, ap_blkN, ap_blkE, ap_blkR, ap_invN, ap_invE, ap_invR, want_none, sop, wkr_some, wkr_map, wko_some, ev_tmp, ev_const, ev_func, tmps0, Tr.get_put, Tr.get_set, get_leaf, callS, evs, List.map_cons, List.map_nil, ↓reduceIte, Option.some.injEq, Nat.reduceEqDiff, bin_lss, bin_leq, bin_gtr, bin_geq, bin_eql, bin_neq, bin_add, bin_sub, bin_mul, max2, min2, resS, resV, decide_eq_true_eq, decide_eq_false_iff_not, beq_iff_eq, true_and, and_true, or_true, true_or, exists_eq_left', Option.map_some, Option.map_none, want_some, Option.bind_some, reduceCtorEq, List.nil_append, List.append_nil, List.cons_append, Value.int.injEq, wantD_some, List.getElem?_toArray, List.getElem?_cons_succ, List.getElem?_cons_zero, decide_true, decide_false, beq_self_eq_true, wantG_true, wantG_false, Bool.not_true, Bool.not_false, Bool.false_eq_true, if_true, if_false, flat_bool, flat_int, pure_not, pure_neg, ↓wk_tt, ↓wk_ff, false_implies, true_implies, wantG_undef, u0, u7, u10, u11, u14, u12, c1, hp1, hp2, w4, d1, d3, d4]; exact hlt
                · simp only [wk_seq, wk_block, wk_region, wkl_nil, wkl_cons, wk_cond, wkc_bool, wk_skip, wk_exit, wk_ret, ap_top, ap_seqN, ap_seqE, ap_seqR, ap_blkN, ap_blkE, ap_blkR, ap_invN, ap_invE, ap_invR, want_none, sop, wkr_some, wkr_map, wko_some, ev_tmp, ev_const, ev_func, tmps0, Tr.get_put, Tr.get_set, get_leaf, callS, evs, List.map_cons, List.map_nil, ↓reduceIte, Option.some.injEq, Nat.reduceEqDiff, bin_lss, bin_leq, bin_gtr, bin_geq, bin_eql, bin_neq, bin_add, bin_sub, bin_mul, max2, min2, resS, resV, decide_eq_true_eq, decide_eq_false_iff_not, beq_iff_eq, true_and, and_true, or_true, true_or, exists_eq_left', Option.map_some, Option.map_none, want_some, Option.bind_some, reduceCtorEq, List.nil_append, List.append_nil, List.cons_append, Value.int.injEq, wantD_some, List.getElem?_toArray, List.getElem?_cons_succ, List.getElem?_cons_zero, decide_true, decide_false, beq_self_eq_true, wantG_true, wantG_false, Bool.not_true, Bool.not_false, Bool.false_eq_true, if_true, if_false, flat_bool, flat_int, pure_not, pure_neg, ↓wk_tt, ↓wk_ff, false_implies, true_implies, wantG_undef, u0, u7, u10, u11, u14, u12, c1, hp1, hp2, w4, d1, d2, d3]; exact hlt
                · simp only [wk_seq, wk_block, wk_region, wkl_nil, wkl_cons, wk_cond, wkc_bool, wk_skip, wk_exit, wk_ret, ap_top, ap_seqN, ap_seqE, ap_seqR, ap_blkN, ap_blkE, ap_blkR, ap_invN, ap_invE, ap_invR, want_none, sop, wkr_some, wkr_map, wko_some, ev_tmp, ev_const, ev_func, tmps0, Tr.get_put, Tr.get_set, get_leaf, callS, evs, List.map_cons, List.map_nil, ↓reduceIte, Option.some.injEq, Nat.reduceEqDiff, bin_lss, bin_leq, bin_gtr, bin_geq, bin_eql, bin_neq, bin_add, bin_sub, bin_mul, max2, min2, resS, resV, decide_eq_true_eq, decide_eq_false_iff_not, beq_iff_eq, true_and, and_true, or_true, true_or, exists_eq_left', Option.map_some, Option.map_none, want_some, Option.bind_some, reduceCtorEq, List.nil_append, List.append_nil, List.cons_append, Value.int.injEq, wantD_some, List.getElem?_toArray, List.getElem?_cons_succ, List.getElem?_cons_zero, decide_true, decide_false, beq_self_eq_true, wantG_true, wantG_false, Bool.not_true, Bool.not_false, Bool.false_eq_true, if_true, if_false, flat_bool, flat_int, pure_not, pure_neg, ↓wk_tt, ↓wk_ff, false_implies, true_implies, wantG_undef, u0, u7, u10, u11, u14, u12, c1, hp1, hp2, w4, d1, d2, d3, d4]; exact hlt
              | false =>
                rw [hpos] at u12
                rcases aS with d1 | ⟨d1, d2⟩
                · simp only [wk_seq, wk_block, wk_region, wkl_nil, wkl_cons, wk_cond, wkc_bool, wk_skip, wk_exit, wk_ret, ap_top, ap_seqN, ap_seqE, ap_seqR, ap_blkN, ap_blkE, ap_blkR, ap_invN, ap_invE, ap_invR, want_none, sop, wkr_some, wkr_map, wko_some, ev_tmp, ev_const, ev_func, tmps0, Tr.get_put, Tr.get_set, get_leaf, callS, evs, List.map_cons, List.map_nil, ↓reduceIte, Option.some.injEq, Nat.reduceEqDiff, bin_lss, bin_leq, bin_gtr, bin_geq, bin_eql, bin_neq, bin_add, bin_sub, bin_mul, max2, min2, resS, resV, decide_eq_true_eq, decide_eq_false_iff_not, beq_iff_eq, true_and, and_true, or_true, true_or, exists_eq_left', Option.map_some, Option.map_none, want_some, Option.bind_some, reduceCtorEq, List.nil_append, List.append_nil, List.cons_append, Value.int.injEq, wantD_some, List.getElem?_toArray, List.getElem?_cons_succ, List.getElem?_cons_zero, decide_true, decide_false, beq_self_eq_true, wantG_true, wantG_false, Bool.not_true, Bool.not_false, Bool.false_eq_true, if_true, if_false, flat_bool, flat_int, pure_not, pure_neg, ↓wk_tt, ↓wk_ff, false_implies, true_implies, wantG_undef, u0, u7, u10, u11, u14, u12, c1, hp1, hp2, w4, d1]; exact hlt
                · simp only [wk_seq, wk_block, wk_region, wkl_nil, wkl_cons, wk_cond, wkc_bool, wk_skip, wk_exit, wk_ret, ap_top, ap_seqN, ap_seqE, ap_seqR, ap_blkN, ap_blkE, ap_blkR, ap_invN, ap_invE, ap_invR, want_none, sop, wkr_some, wkr_map, wko_some, ev_tmp, ev_const, ev_func, tmps0, Tr.get_put, Tr.get_set, get_leaf, callS, evs, List.map_cons, List.map_nil, ↓reduceIte, Option.some.injEq, Nat.reduceEqDiff, bin_lss, bin_leq, bin_gtr, bin_geq, bin_eql, bin_neq, bin_add, bin_sub, bin_mul, max2, min2, resS, resV, decide_eq_true_eq, decide_eq_false_iff_not, beq_iff_eq, true_and, and_true, or_true, true_or, exists_eq_left', Option.map_some, Option.map_none, want_some, Option.bind_some, reduceCtorEq, List.nil_append, List.append_nil, List.cons_append, Value.int.injEq, wantD_some, List.getElem?_toArray, List.getElem?_cons_succ, List.getElem?_cons_zero, decide_true, decide_false, beq_self_eq_true, wantG_true, wantG_false, Bool.not_true, Bool.not_false, Bool.false_eq_true, if_true, if_false, flat_bool, flat_int, pure_not, pure_neg, ↓wk_tt, ↓wk_ff, false_implies, true_implies, wantG_undef, u0, u7, u10, u11, u14, u12, c1, hp1, hp2, w4, d1, d2]; exact hlt
            · have c1 : decide ((k : Int) < (l.length : Int)) = false := by simp; omega
              have hkl : k = l.length := by omega
              subst hkl
              have c2 : decide (a ≥ 0) = true := by simpa using rS.1
              have c3 : decide (b ≥ 0) = true := by simpa using rT.1
              have c4 : decide (a ≤ 4611686018427387904) = true := by simpa using rS.2
              have c5 : decide (b ≤ 4611686018427387904) = true := by simpa using rT.2
              simp only [wk_seq, wk_block, wk_region, wkl_nil, wkl_cons, wk_cond, wkc_bool, wk_skip, wk_exit, wk_ret, ap_top, ap_seqN, ap_seqE, ap_seqR, ap_blkN, ap_blkE, ap_blkR, ap_invN, ap_invE, ap_invR, want_none, sop, wkr_some, wkr_map, wko_some, ev_tmp, ev_const, ev_func, tmps0, Tr.get_put, Tr.get_set, get_leaf, callS, evs, List.map_cons, List.map_nil, ↓reduceIte, Option.some.injEq, Nat.reduceEqDiff, bin_lss, bin_leq, bin_gtr, bin_geq, bin_eql, bin_neq, bin_add, bin_sub, bin_mul, max2, min2, resS, resV, decide_eq_true_eq, decide_eq_false_iff_not, beq_iff_eq, true_and, and_true, or_true, true_or, exists_eq_left', Option.map_some, Option.map_none, want_some, Option.bind_some, reduceCtorEq, List.nil_append, List.append_nil, List.cons_append, Value.int.injEq, wantD_some, List.getElem?_toArray, List.getElem?_cons_succ, List.getElem?_cons_zero, decide_true, decide_false, beq_self_eq_true, wantG_true, wantG_false, Bool.not_true, Bool.not_false, Bool.false_eq_true, if_true, if_false, flat_bool, flat_int, pure_not, pure_neg, ↓wk_tt, ↓wk_ff, false_implies, true_implies, wantG_undef, u0, u7, u10, u11, u14, u12, c1, c2, c3, c4, c5, e48]
end
end Go.Proofs.YtdhehcalmjcpgaaDoor
