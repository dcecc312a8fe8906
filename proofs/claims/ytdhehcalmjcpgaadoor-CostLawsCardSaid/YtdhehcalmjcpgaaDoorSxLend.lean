/- Lists that are lent and looked at again, by the shadow reading. -/
import Derived.Test.YtdhehcalmjcpgaaDoorSxTimes
namespace Go.Proofs.YtdhehcalmjcpgaaDoor
open Go Go.Sx
set_option maxRecDepth 100000
set_option linter.unusedSimpArgs false
set_option linter.unusedVariables false

theorem by3 : byOf Tryd.prog 3 = some 8 := by kernel_rfl
theorem zero3 : zeroOf Tryd.prog 3 = some (.int .i64 0) := by kernel_rfl

def ints (l : List Int) : List Value := l.map (.int .i64 ·)
def wf (h : SHeap) : Prop := h.good

/-- h' is h but for object id. -/
structure Turned (h h' : SHeap) (id : Nat) (o : SObj) : Prop where
  nx : h'.next = h.next
  fl : h'.floor = h.floor
  wf : wf h'
  new : h'.get id = o
  old : ∀ i, i ≠ id → h'.get i = h.get i
structure Grew (h h' : SHeap) (o : SObj) : Prop where
  nx : h'.next = h.next + 1
  fl : h'.floor = h.floor
  wf : wf h'
  new : h'.get h.next = o
  old : ∀ i, i ≠ h.next → h'.get i = h.get i

theorem turned_put {h : SHeap} (hw : wf h) {id : Nat} {o : SObj} (hi : id < h.next) : Turned h (h.put id o) id o :=
  ⟨rfl, rfl, len_put hw, get_put_same hw hi, fun i hne => get_put_ne hi (Ne.symm hne)⟩
theorem turned_same {h : SHeap} (hw : wf h) {id : Nat} {o : SObj} (ho : h.get id = o) : Turned h h id o := ⟨rfl, rfl, hw, ho, fun _ _ => rfl⟩
theorem grew_push {h : SHeap} (hw : wf h) (o : SObj) : Grew h (h.push o) o := ⟨rfl, rfl, len_push hw, get_push_new, fun i hne => get_push hne⟩
theorem row_lt {h : SHeap} {id : Nat} {cs : List Value} {ty : TypeId} {g ro : Bool} (ho : h.get id = .row cs ty g ro) : id < h.next := get_lt (by rw [ho]; intro h; cases h)

section
variable {P : Program} {h : SHeap} {t e : TypeId}
/-- An append that fits. -/
theorem append_fit {s b : Nat} {z : Value} {id off len cap n sc : Nat} {sb : Option Addr} {new cs : List Value} {ty : TypeId} {g : Bool} (ht : P.underlying t = some (.slice e)) (hs : szOf P e = some s) (hb : byOf P e = some b) (hz : zeroOf P e = some z)
    (h0 : 0 < s) (hzs : z.cells.size = s) (hfit : len + n ≤ cap) (hcap : cap < unk) (hsrc : srcCells h s n (.slice sb n sc) = some new) (hone : new.all one = true) (hw : wf h) (hg : h.get id = .row cs ty g false) (hf : h.floor ≤ id) (hlen : off + len * s + new.length ≤ cs.length) (hnew : n = 0 → new = []) :
    ∃ h', appendS P h t (.slice (some ⟨id, off, none⟩) len cap) (.slice sb n sc) = some (.slice (some ⟨id, off, none⟩) (len + n) cap, h') ∧ Turned h h' id (.row (lay cs (off + len * s) new) ty g false) := by
  have hid := row_lt hg
  by_cases hn : n = 0
  · have := hnew hn
    subst this
    subst hn
    refine ⟨h, ?_, turned_same hw ?_⟩
    · simp [appendS, ht, hs, hb, hz, h0, hzs, hsrc, show len ≤ cap by omega, show cap ≠ unk by omega]
    · rw [hg]; simp [lay]
  · refine ⟨h.put id (.row (lay cs (off + len * s) new) ty g false), ?_, turned_put hw hid⟩
    have hst : storeRow h id (off + len * s) new = some (h.put id (.row (lay cs (off + len * s) new) ty g false)) := by
      unfold storeRow
      rw [hg]
      simp [hf, hlen]
      simpa using hone
    simp only [appendS, ht, hs, hb, hz, h0, hzs, hsrc, hone, hst, show len ≤ cap by omega, show cap ≠ unk by omega, hfit, hn, decide_true, beq_self_eq_true, Bool.and_self, if_true, if_false]
theorem lay_length {cs new : List Value} {off : Nat} (h : off + new.length ≤ cs.length) : (lay cs off new).length = cs.length := by
  unfold lay
  simp
  omega
theorem lay_get {cs new : List Value} {off i : Nat} (h : off + new.length ≤ cs.length) : (lay cs off new)[i]? = if off ≤ i ∧ i < off + new.length then new[i - off]? else cs[i]? := by
  unfold lay
  by_cases h1 : i < off
  · rw [if_neg (by omega), List.append_assoc, List.getElem?_append_left (by simp; omega), List.getElem?_take_of_lt h1]
  · by_cases h2 : i < off + new.length
    · rw [if_pos (by omega), List.append_assoc, List.getElem?_append_right (by simp; omega), List.getElem?_append_left (by simp; omega)]
      congr 1
      simp
      omega
    · rw [if_neg (by omega), List.getElem?_append_right (by simp; omega), List.getElem?_drop]
      congr 1
      simp
      omega
end

section
variable {call : SCall} {n : Nat} {h : SHeap} {v : Value} {l : List Int}
theorem IntsAt.src (hv : IntsAt h v l) : ∃ a c, v = .slice a l.length c ∧ srcCells h 1 l.length (.slice a l.length c) = some (ints l) := by
  obtain ⟨a, c, rfl, hsp, hall⟩ := hv
  refine ⟨a, c, rfl, ?_⟩
  cases l with
  | nil => cases a with
    | none => rfl
    | some a =>
      obtain ⟨id, off, sp⟩ := a
      obtain rfl : sp = none := hsp _ rfl
      rfl
  | cons x l =>
    obtain ⟨id, off, cs, ty, g, ro, rfl, hg, hc⟩ := hall 0 x rfl
    have hcut : cut cs off ((x :: l).length * 1) = some (ints (x :: l)) := by
      have heq : (cs.drop off).take ((x :: l).length * 1) = ints (x :: l) := by
        apply List.ext_getElem?
        intro k
        rw [List.getElem?_take]
        split
        · rename_i hk
          obtain ⟨id', off', cs', ty', g', ro', e1, hg', hc'⟩ := hall k ((x :: l)[k]'(by simp at hk ⊢; omega)) (by simp)
          cases e1
          rw [hg] at hg'
          cases hg'
          rw [List.getElem?_drop, hc']
          unfold ints
          rw [List.getElem?_map, List.getElem?_eq_getElem (by simp at hk ⊢; omega)]
          rfl
        · rename_i hk
          rw [List.getElem?_eq_none]
          unfold ints
          simp at hk ⊢
          omega
      unfold cut
      simp only [heq]
      unfold ints
      simp
    simp only [srcCells, List.length_cons, Nat.add_one_ne_zero, if_false, hg]
    exact hcut

theorem IntsAt.mono {h' : SHeap} (hv : IntsAt h v l) (ho : ∀ i, i < h.next → h'.get i = h.get i) : IntsAt h' v l := by
  obtain ⟨a, c, rfl, hsp, hall⟩ := hv
  refine ⟨a, c, rfl, hsp, fun k x hk => ?_⟩
  obtain ⟨id, off, cs, ty, g, ro, e, hg, hc⟩ := hall k x hk
  exact ⟨id, off, cs, ty, g, ro, e, by rw [ho id (row_lt hg)]; exact hg, hc⟩

theorem zeros_get {z : Value} (m i : Nat) : (zeros [z] m)[i]? = if i < m then some z else none := by
  induction m generalizing i with
  | zero => simp [zeros]
  | succ m ih =>
    simp only [zeros, List.cons_append, List.nil_append]
    cases i with
    | zero => simp
    | succ i => rw [List.getElem?_cons_succ, ih]; simp
theorem zeros_len {z : Value} (m : Nat) : (zeros [z] m).length = m := by
  induction m with
  | zero => rfl
  | succ m ih => simp [zeros, ih]
theorem ints_len (l : List Int) : (ints l).length = l.length := by simp [ints]
theorem ints_get (l : List Int) (i : Nat) : (ints l)[i]? = (l[i]?).map (.int .i64 ·) := by simp [ints]
theorem ints_one (l : List Int) : (ints l).all one = true := by simp [ints, one]

/-- A list that was lent: a copy of it with a mark behind. -/
def lentRow (l : List Int) : SObj := .row (ints l ++ [.int .i64 (-77), .int .i64 0, .int .i64 0]) 3 false false
structure Lent (h h' : SHeap) (l : List Int) : Prop where
  nx : h'.next = h.next + 2
  fl : h'.floor = h.floor
  wf : wf h'
  old : ∀ i, i < h.next → h'.get i = h.get i
  new : h'.get h.next = lentRow l

theorem lend_walk (hv : IntsAt h v l) (hw : wf h) (hf : h.floor ≤ h.next) (hlen : l.length < 17592186044416) :
    ∃ h', bodyF Tryd.prog call n 42 [v] h = some (.slice (some ⟨h.next, 0, none⟩) l.length (l.length + 3), h') ∧ Lent h h' l := by
  have hmk : makeSliceS Tryd.prog h 28 (.int .i64 0) (.int .i64 ((l.length : Int) + 3)) = some (.slice (some ⟨h.next, 0, none⟩) 0 (l.length + 3), h.push (.row (zeros [.int .i64 0] (l.length + 3)) 3 false false)) := by
    have e1 : ((l.length : Int) + 3).toNat = l.length + 3 := by omega
    have e2 : (0 : Int) ≤ (l.length : Int) + 3 := by omega
    have e3 : ((8 : Nat) : Int) * ((l.length : Int) + 3) ≤ 281474976710656 := by omega
    have e4 : (l.length : Int) + 3 ≤ 281474976710656 := by omega
    have e5 : (Value.int .i64 0).cells = #[.int .i64 0] := rfl
    simp only [makeSliceS, Tryd.underlying28, sz3, zero3, by3, e1, e2, e3, e4, e5, flat, flat1, decide_true, Bool.and_self, List.size_toArray, List.length_cons, List.length_nil, Nat.zero_add, beq_self_eq_true, Nat.zero_lt_one, if_true, Int.le_refl, Int.toNat_zero]
  have g1 := grew_push hw (.row (zeros [.int .i64 0] (l.length + 3)) 3 false false)
  generalize h.push (.row (zeros [.int .i64 0] (l.length + 3)) 3 false false) = h1 at hmk g1
  have hv1 := IntsAt.mono hv (h' := h1) fun i hi => g1.old i (by omega)
  obtain ⟨a, c, rfl, hsrc⟩ := IntsAt.src hv1
  obtain ⟨h2, hap, t2⟩ := append_fit (len := 0) (off := 0) (cap := l.length + 3) Tryd.underlying28 sz3 by3 zero3 (by omega) rfl (by omega) (by unfold unk; omega) hsrc (ints_one l) g1.wf g1.new (by rw [g1.fl]; exact hf) (by rw [zeros_len, ints_len]; omega) (fun h => by cases l with | nil => rfl | cons => simp at h)
  have hbs : buildSliceS Tryd.prog h2 28 1 [(0, .int .i64 (-77))] = some (.slice (some ⟨h2.next, 0, none⟩) 1 1, h2.push (.row [.int .i64 (-77)] 3 false false)) := by
    have e5 : (Value.int .i64 0).cells = #[.int .i64 0] := rfl
    have e6 : (Value.int .i64 (-77)).cells = #[.int .i64 (-77)] := rfl
    simp [buildSliceS, Tryd.underlying28, sz3, zero3, flat, flat1, e5, e6, fillS, zeros, lay]
  have g3 := grew_push t2.wf (.row [.int .i64 (-77)] 3 false false)
  generalize h2.push (.row [.int .i64 (-77)] 3 false false) = h3 at hbs g3
  have hne : h.next ≠ h2.next := by have := t2.nx; have := g1.nx; omega
  have hsrc3 : srcCells h3 1 1 (.slice (some ⟨h2.next, 0, none⟩) 1 1) = some [.int .i64 (-77)] := by
    simp [srcCells, g3.new, cut]
  have hget3 := (g3.old h.next hne).trans t2.new
  obtain ⟨h4, hap4, t4⟩ := append_fit (len := 0 + l.length) (off := 0) (cap := l.length + 3) Tryd.underlying28 sz3 by3 zero3 (by omega) rfl (by omega) (by unfold unk; omega) hsrc3 rfl g3.wf hget3 (by rw [g3.fl, t2.fl, g1.fl]; exact hf) (by rw [lay_length (by rw [zeros_len, ints_len]; omega), zeros_len]; simp) (fun h => by cases h)
  have hsl : sliceS Tryd.prog h4 28 (.slice (some ⟨h.next, 0, none⟩) (0 + l.length + 1) (l.length + 3)) none (some (.int .i64 (l.length : Int))) none = some (.slice (some ⟨h.next, 0, none⟩) l.length (l.length + 3)) := by
    have e1 : (l.length + 3 = unk) = False := by simp [unk]; omega
    simp only [sliceS, Tryd.underlying28, sz3, e1, if_false, bound]
    simp [Addr.add]
    rw [if_pos (by omega)]
  refine ⟨h4, ?_, ⟨by rw [t4.nx, g3.nx, t2.nx, g1.nx], by rw [t4.fl, g3.fl, t2.fl, g1.fl], t4.wf, fun i hi => ?_, ?_⟩⟩
  · refine call_is Tryd.func42 rfl (by simp [Tryd.f42]) ?_
    have hr : Tryd.f42.results.toList = [.tmp 2] := rfl
    have hl2 : ∀ hh : SHeap, lenS Tryd.prog hh 28 (.slice a l.length c) = some (.int .i64 l.length) := fun hh => by simp [lenS, Tryd.underlying28]
    simp only [wk_seq, wk_block, wk_region, wkl_nil, wkl_cons, wk_cond, wkc_bool, wk_skip, wk_exit, wk_ret, ap_top, ap_seqN, ap_seqE, ap_seqR, ap_blkN, ap_blkE, ap_blkR, ap_invN, ap_invE, ap_invR, want_none, sop, wkr_some, wkr_map, wko_some, ev_tmp, ev_const, ev_func, tmps0, Tr.get_put, Tr.get_set, get_leaf, callS, evs, List.map_cons, List.map_nil, ↓reduceIte, Option.some.injEq, Nat.reduceEqDiff, bin_lss, bin_leq, bin_gtr, bin_geq, bin_eql, bin_neq, bin_add, bin_sub, bin_mul, max2, min2, resS, resV, decide_eq_true_eq, decide_eq_false_iff_not, beq_iff_eq, true_and, and_true, or_true, true_or, exists_eq_left', Option.map_some, Option.map_none, want_some, Option.bind_some, reduceCtorEq, List.nil_append, List.append_nil, List.cons_append, Value.int.injEq, wantD_some, List.getElem?_toArray, List.getElem?_cons_succ, List.getElem?_cons_zero, decide_true, decide_false, beq_self_eq_true, wantG_true, wantG_false, Bool.not_true, Bool.not_false, Bool.false_eq_true, if_true, if_false, flat_bool, flat_int, pure_not, pure_neg, hr, hl2, wrap_id (x := (l.length : Int) + 3) (by omega) (by omega), hmk, hap, hbs, hap4, hsl]
  · have h1' := t4.old i (by omega)
    have h2' := g3.old i (by have := t2.nx; have := g1.nx; omega)
    have h3' := t2.old i (by omega)
    have h4' := g1.old i (by omega)
    rw [h1', h2', h3', h4']
  · rw [t4.new]
    unfold lentRow
    refine congrArg (fun cs => SObj.row cs 3 false false) ?_
    apply List.ext_getElem?
    intro i
    rw [lay_get (by rw [lay_length (by rw [zeros_len, ints_len]; omega), zeros_len]; simp), lay_get (by rw [zeros_len, ints_len]; omega), zeros_get, List.getElem?_append, ints_get, ints_len]
    simp only [Nat.zero_add, Nat.zero_mul, Nat.mul_one, Nat.add_zero, Nat.sub_zero, List.length_cons, List.length_nil, Nat.zero_le, true_and]
    by_cases h1 : i < l.length
    · rw [if_neg (by omega), if_pos h1, if_pos h1, ints_get]
    · by_cases h2 : i = l.length
      · subst h2
        rw [if_pos (by omega), if_neg h1, Nat.sub_self]
        rfl
      · rw [if_neg (by omega), if_neg h1, if_neg h1]
        by_cases h3 : i = l.length + 1
        · subst h3
          rw [if_pos (by omega), Nat.add_sub_cancel_left]
          rfl
        · by_cases h4 : i = l.length + 2
          · subst h4
            rw [if_pos (by omega), Nat.add_sub_cancel_left]
            rfl
          · rw [if_neg (by omega), List.getElem?_eq_none (by simp; omega)]

theorem same_walk {v2 : Value} (hv : IntsAt h v l) (hv2 : IntsAt h v2 l) (hlen : l.length < 9223372036854775807) (hn : l.length < n) : bodyF Tryd.prog call n 37 [v, v2] h = some (.bool true, h) := by
  refine call_is Tryd.func37 rfl (by simp [Tryd.f37]) ?_
  have hr : Tryd.f37.results.toList = [.tmp 4] := rfl
  simp only [wk_seq, wk_block, wk_region, wkl_nil, wkl_cons, wk_cond, wkc_bool, wk_skip, wk_exit, wk_ret, ap_top, ap_seqN, ap_seqE, ap_seqR, ap_blkN, ap_blkE, ap_blkR, ap_invN, ap_invE, ap_invR, want_none, sop, wkr_some, wkr_map, wko_some, ev_tmp, ev_const, ev_func, tmps0, Tr.get_put, Tr.get_set, get_leaf, callS, evs, List.map_cons, List.map_nil, ↓reduceIte, Option.some.injEq, Nat.reduceEqDiff, bin_lss, bin_leq, bin_gtr, bin_geq, bin_eql, bin_neq, bin_add, bin_sub, bin_mul, max2, min2, resS, resV, decide_eq_true_eq, decide_eq_false_iff_not, beq_iff_eq, true_and, and_true, or_true, true_or, exists_eq_left', Option.map_some, Option.map_none, want_some, Option.bind_some, reduceCtorEq, List.nil_append, List.append_nil, List.cons_append, Value.int.injEq, wantD_some, List.getElem?_toArray, List.getElem?_cons_succ, List.getElem?_cons_zero, decide_true, decide_false, beq_self_eq_true, wantG_true, wantG_false, Bool.not_true, Bool.not_false, Bool.false_eq_true, if_true, if_false, flat_bool, flat_int, pure_not, pure_neg, hv.len Tryd.underlying28, hv2.len Tryd.underlying28, hr, bne_self_eq_false]
  refine ⟨fun h => (by cases h), fun _ => ?_⟩
  refine WK.loop (fun k s => s.h = h ∧ s.T.get 0 = v ∧ s.T.get 1 = v2 ∧ s.T.get 5 = .int .i64 k) l.length hn ?_ ?_
  · simp only [wk_seq, wk_block, wk_region, wkl_nil, wkl_cons, wk_cond, wkc_bool, wk_skip, wk_exit, wk_ret, ap_top, ap_seqN, ap_seqE, ap_seqR, ap_blkN, ap_blkE, ap_blkR, ap_invN, ap_invE, ap_invR, want_none, sop, wkr_some, wkr_map, wko_some, ev_tmp, ev_const, ev_func, tmps0, Tr.get_put, Tr.get_set, get_leaf, callS, evs, List.map_cons, List.map_nil, ↓reduceIte, Option.some.injEq, Nat.reduceEqDiff, bin_lss, bin_leq, bin_gtr, bin_geq, bin_eql, bin_neq, bin_add, bin_sub, bin_mul, max2, min2, resS, resV, decide_eq_true_eq, decide_eq_false_iff_not, beq_iff_eq, true_and, and_true, or_true, true_or, exists_eq_left', Option.map_some, Option.map_none, want_some, Option.bind_some, reduceCtorEq, List.nil_append, List.append_nil, List.cons_append, Value.int.injEq, wantD_some, List.getElem?_toArray, List.getElem?_cons_succ, List.getElem?_cons_zero, decide_true, decide_false, beq_self_eq_true, wantG_true, wantG_false, Bool.not_true, Bool.not_false, Bool.false_eq_true, if_true, if_false, flat_bool, flat_int, pure_not, pure_neg]
    rfl
  · rintro k ⟨T, h1⟩ hk ⟨rfl, h0, h1', h5⟩
    simp only at h0 h1' h5
    simp only [wk_seq, wk_block, wk_region, wkl_nil, wkl_cons, wk_cond, wkc_bool, wk_skip, wk_exit, wk_ret, ap_top, ap_seqN, ap_seqE, ap_seqR, ap_blkN, ap_blkE, ap_blkR, ap_invN, ap_invE, ap_invR, want_none, sop, wkr_some, wkr_map, wko_some, ev_tmp, ev_const, ev_func, tmps0, Tr.get_put, Tr.get_set, get_leaf, callS, evs, List.map_cons, List.map_nil, ↓reduceIte, Option.some.injEq, Nat.reduceEqDiff, bin_lss, bin_leq, bin_gtr, bin_geq, bin_eql, bin_neq, bin_add, bin_sub, bin_mul, max2, min2, resS, resV, decide_eq_true_eq, decide_eq_false_iff_not, beq_iff_eq, true_and, and_true, or_true, true_or, exists_eq_left', Option.map_some, Option.map_none, want_some, Option.bind_some, reduceCtorEq, List.nil_append, List.append_nil, List.cons_append, Value.int.injEq, wantD_some, List.getElem?_toArray, List.getElem?_cons_succ, List.getElem?_cons_zero, decide_true, decide_false, beq_self_eq_true, wantG_true, wantG_false, Bool.not_true, Bool.not_false, Bool.false_eq_true, if_true, if_false, flat_bool, flat_int, pure_not, pure_neg, h0, h1', h5, hv.len Tryd.underlying28]
    refine ⟨fun hlt => ?_, fun hge => ?_⟩
    · have hlt' : k < l.length := by omega
      have hx : l[k]? = some l[k] := List.getElem?_eq_getElem hlt'
      generalize l[k] = x at hx
      obtain ⟨p, hp1, hp2⟩ := hv.idx Tryd.underlying28 sz3 agg3 hx (kd := .i64)
      obtain ⟨p', hp1', hp2'⟩ := hv2.idx Tryd.underlying28 sz3 agg3 hx (kd := .i64)
      refine WK.quiet (by kernel_rfl) ?_
      simp only [wk_seq, wk_block, wk_region, wkl_nil, wkl_cons, wk_cond, wkc_bool, wk_skip, wk_exit, wk_ret, ap_top, ap_seqN, ap_seqE, ap_seqR, ap_blkN, ap_blkE, ap_blkR, ap_invN, ap_invE, ap_invR, want_none, sop, wkr_some, wkr_map, wko_some, ev_tmp, ev_const, ev_func, tmps0, Tr.get_put, Tr.get_set, get_leaf, callS, evs, List.map_cons, List.map_nil, ↓reduceIte, Option.some.injEq, Nat.reduceEqDiff, bin_lss, bin_leq, bin_gtr, bin_geq, bin_eql, bin_neq, bin_add, bin_sub, bin_mul, max2, min2, resS, resV, decide_eq_true_eq, decide_eq_false_iff_not, beq_iff_eq, true_and, and_true, or_true, true_or, exists_eq_left', Option.map_some, Option.map_none, want_some, Option.bind_some, reduceCtorEq, List.nil_append, List.append_nil, List.cons_append, Value.int.injEq, wantD_some, List.getElem?_toArray, List.getElem?_cons_succ, List.getElem?_cons_zero, decide_true, decide_false, beq_self_eq_true, wantG_true, wantG_false, Bool.not_true, Bool.not_false, Bool.false_eq_true, if_true, if_false, flat_bool, flat_int, pure_not, pure_neg, h0, h1', h5, hp1, hp2, hp1', hp2', bne_self_eq_false]
      refine ⟨fun h => h.elim, fun _ => ⟨hlt', ?_⟩⟩
      rw [wrap_id (by omega) (by omega)]; rfl
    · trivial

/-- A number is stored in a row of integers. -/
theorem store_int {id k : Nat} {cs : List Value} {x : Int} (hw : wf h) (hg : h.get id = .row cs 3 false false) (hf : h.floor ≤ id) (hk : k < cs.length) :
    ∃ h', storeS Tryd.prog h 3 (.pointer (some ⟨id, k, none⟩)) (.int .i64 x) = some h' ∧ Turned h h' id (.row (lay cs k [.int .i64 x]) 3 false false) := by
  refine ⟨h.put id (.row (lay cs k [.int .i64 x]) 3 false false), ?_, turned_put hw (row_lt hg)⟩
  have e : (Value.int .i64 x).cells = #[.int .i64 x] := rfl
  simp [storeS, storeRow, sz3, e, hg, hf, one]
  omega

theorem kept_walk {id : Nat} (hs : ∀ hh : SHeap, IntsAt hh (.slice (some ⟨id, 0, none⟩) l.length (l.length + 3)) l → IntsAt hh v l → call 37 [.slice (some ⟨id, 0, none⟩) l.length (l.length + 3), v] hh = some (.bool true, hh))
    (hv : IntsAt h v l) (hw : wf h) (hg : h.get id = lentRow l) (hf : h.floor ≤ id) (hlen : l.length < 17592186044416) (hn : l.length < n) :
    ∃ h', bodyF Tryd.prog call n 45 [.slice (some ⟨id, 0, none⟩) l.length (l.length + 3), v] h = some (.bool true, h') ∧ h'.next = h.next ∧ h'.floor = h.floor ∧ wf h' ∧ ∀ i, i ≠ id → h'.get i = h.get i := by
  have hlent : IntsAt h (.slice (some ⟨id, 0, none⟩) l.length (l.length + 3)) l := by
    refine ⟨_, _, rfl, fun b hb => by cases hb; rfl, fun k x hk => ⟨id, 0, _, _, _, _, rfl, hg, ?_⟩⟩
    have hlt : k < l.length := (List.getElem?_eq_some_iff.1 hk).1
    rw [Nat.zero_add, List.getElem?_append_left (by rw [ints_len]; exact hlt), ints_get, hk]
    rfl
  suffices hmain : ∃ u h', bodyF Tryd.prog call n 45 [.slice (some ⟨id, 0, none⟩) l.length (l.length + 3), v] h = some (u, h') ∧ (u = .bool true ∧ h'.next = h.next ∧ h'.floor = h.floor ∧ wf h' ∧ ∀ i, i ≠ id → h'.get i = h.get i) by
    obtain ⟨u, h', h1, rfl, h2⟩ := hmain
    exact ⟨h', h1, h2⟩
  refine call_body (R := fun u h' => u = .bool true ∧ h'.next = h.next ∧ h'.floor = h.floor ∧ wf h' ∧ ∀ i, i ≠ id → h'.get i = h.get i) Tryd.func45 rfl (by simp [Tryd.f45]) ?_
  have hr : Tryd.f45.results.toList = [.tmp 4] := rfl
  have hsl : sliceS Tryd.prog h 28 (.slice (some ⟨id, 0, none⟩) l.length (l.length + 3)) none (some (.int .i64 ((l.length : Int) + 1))) none = some (.slice (some ⟨id, 0, none⟩) (l.length + 1) (l.length + 3)) := by
    have e1 : (l.length + 3 = unk) = False := by simp [unk]; omega
    have e2 : ((0 : Nat) : Int) ≤ (l.length : Int) + 1 ∧ (l.length : Int) + 1 ≤ ((l.length + 3 : Nat) : Int) := by omega
    have e3 : ((l.length : Int) + 1).toNat = l.length + 1 := by omega
    simp only [sliceS, Tryd.underlying28, sz3, e1, if_false, bound, e2, and_self, if_true, e3]
    simp [Addr.add]
  have hix : idxAddr Tryd.prog 28 (.slice (some ⟨id, 0, none⟩) (l.length + 1) (l.length + 3)) (.int .i64 (l.length : Int)) = some (.pointer (some ⟨id, l.length, none⟩)) := by
    have e2 : (0 : Int) ≤ (l.length : Int) ∧ (l.length : Int) < ((l.length + 1 : Nat) : Int) := by omega
    simp only [idxAddr, Tryd.underlying28, e2, and_self, if_true, sz3]
    simp [Addr.add]
    try (intro h; rw [h]; rfl)
  have hld : loadS Tryd.prog h 3 (.pointer (some ⟨id, l.length, none⟩)) = some (.int .i64 (-77)) := by
    have hg' := hg
    unfold lentRow at hg'
    simp only [loadS, hg', agg3]
    rw [List.getElem?_append_right (by rw [ints_len]; omega), ints_len, Nat.sub_self]
    rfl
  have h37 := hs h hlent hv
  rw [wk_top]
  simp only [wk_seq, wk_block, wk_region, wkl_nil, wkl_cons, wk_cond, wkc_bool, wk_skip, wk_exit, wk_ret, ap_top, ap_seqN, ap_seqE, ap_seqR, ap_blkN, ap_blkE, ap_blkR, ap_invN, ap_invE, ap_invR, want_none, sop, wkr_some, wkr_map, wko_some, ev_tmp, ev_const, ev_func, tmps0, Tr.get_put, Tr.get_set, get_leaf, callS, evs, List.map_cons, List.map_nil, ↓reduceIte, Option.some.injEq, Nat.reduceEqDiff, bin_lss, bin_leq, bin_gtr, bin_geq, bin_eql, bin_neq, bin_add, bin_sub, bin_mul, max2, min2, resS, resV, decide_eq_true_eq, decide_eq_false_iff_not, beq_iff_eq, true_and, and_true, or_true, true_or, exists_eq_left', Option.map_some, Option.map_none, want_some, Option.bind_some, reduceCtorEq, List.nil_append, List.append_nil, List.cons_append, Value.int.injEq, wantD_some, List.getElem?_toArray, List.getElem?_cons_succ, List.getElem?_cons_zero, decide_true, decide_false, beq_self_eq_true, wantG_true, wantG_false, Bool.not_true, Bool.not_false, Bool.false_eq_true, if_true, if_false, flat_bool, flat_int, pure_not, pure_neg, hr, hv.len Tryd.underlying28, hlent.len Tryd.underlying28, h37, wrap_id (x := (l.length : Int) + 1) (by omega) (by omega), hsl, hix, hld]
  refine WK.loop (fun k s => s.T.get 0 = .slice (some ⟨id, 0, none⟩) l.length (l.length + 3) ∧ s.T.get 5 = .bool true ∧ s.T.get 6 = .int .i64 k ∧ s.h.next = h.next ∧ s.h.floor = h.floor ∧ wf s.h ∧ (∀ i, i ≠ id → s.h.get i = h.get i) ∧
    ∃ cs, s.h.get id = .row cs 3 false false ∧ cs.length = l.length + 3) l.length hn ?_ ?_
  · simp only [wk_seq, wk_block, wk_region, wkl_nil, wkl_cons, wk_cond, wkc_bool, wk_skip, wk_exit, wk_ret, ap_top, ap_seqN, ap_seqE, ap_seqR, ap_blkN, ap_blkE, ap_blkR, ap_invN, ap_invE, ap_invR, want_none, sop, wkr_some, wkr_map, wko_some, ev_tmp, ev_const, ev_func, tmps0, Tr.get_put, Tr.get_set, get_leaf, callS, evs, List.map_cons, List.map_nil, ↓reduceIte, Option.some.injEq, Nat.reduceEqDiff, bin_lss, bin_leq, bin_gtr, bin_geq, bin_eql, bin_neq, bin_add, bin_sub, bin_mul, max2, min2, resS, resV, decide_eq_true_eq, decide_eq_false_iff_not, beq_iff_eq, true_and, and_true, or_true, true_or, exists_eq_left', Option.map_some, Option.map_none, want_some, Option.bind_some, reduceCtorEq, List.nil_append, List.append_nil, List.cons_append, Value.int.injEq, wantD_some, List.getElem?_toArray, List.getElem?_cons_succ, List.getElem?_cons_zero, decide_true, decide_false, beq_self_eq_true, wantG_true, wantG_false, Bool.not_true, Bool.not_false, Bool.false_eq_true, if_true, if_false, flat_bool, flat_int, pure_not, pure_neg]
    exact ⟨rfl, hw, fun _ _ => trivial, _, hg, by simp [ints_len]⟩
  · rintro k ⟨T, h1⟩ hk ⟨h0, h5, h6, hnx, hfl, hw1, hold, cs, hcs, hcl⟩
    simp only at h0 h5 h6 hnx hfl hw1 hold hcs
    have hl2 : lenS Tryd.prog h1 28 (.slice (some ⟨id, 0, none⟩) l.length (l.length + 3)) = some (.int .i64 l.length) := by simp [lenS, Tryd.underlying28]
    simp only [wk_seq, wk_block, wk_region, wkl_nil, wkl_cons, wk_cond, wkc_bool, wk_skip, wk_exit, wk_ret, ap_top, ap_seqN, ap_seqE, ap_seqR, ap_blkN, ap_blkE, ap_blkR, ap_invN, ap_invE, ap_invR, want_none, sop, wkr_some, wkr_map, wko_some, ev_tmp, ev_const, ev_func, tmps0, Tr.get_put, Tr.get_set, get_leaf, callS, evs, List.map_cons, List.map_nil, ↓reduceIte, Option.some.injEq, Nat.reduceEqDiff, bin_lss, bin_leq, bin_gtr, bin_geq, bin_eql, bin_neq, bin_add, bin_sub, bin_mul, max2, min2, resS, resV, decide_eq_true_eq, decide_eq_false_iff_not, beq_iff_eq, true_and, and_true, or_true, true_or, exists_eq_left', Option.map_some, Option.map_none, want_some, Option.bind_some, reduceCtorEq, List.nil_append, List.append_nil, List.cons_append, Value.int.injEq, wantD_some, List.getElem?_toArray, List.getElem?_cons_succ, List.getElem?_cons_zero, decide_true, decide_false, beq_self_eq_true, wantG_true, wantG_false, Bool.not_true, Bool.not_false, Bool.false_eq_true, if_true, if_false, flat_bool, flat_int, pure_not, pure_neg, h0, h5, h6, hl2]
    refine ⟨fun hlt => ?_, fun hge => ⟨hnx, hfl, hw1, hold⟩⟩
    have hlt' : k < l.length := by omega
    have hix2 : idxAddr Tryd.prog 28 (.slice (some ⟨id, 0, none⟩) l.length (l.length + 3)) (.int .i64 (k : Int)) = some (.pointer (some ⟨id, k, none⟩)) := by
      have e2 : (0 : Int) ≤ (k : Int) ∧ (k : Int) < ((l.length : Nat) : Int) := by omega
      simp only [idxAddr, Tryd.underlying28, e2, and_self, if_true, sz3]
      simp [Addr.add]
      try (intro h; exact h.symm)
    obtain ⟨h2, hst, t2⟩ := store_int (x := -78) hw1 hcs (by omega) (show k < cs.length by omega)
    simp only [wk_seq, wk_block, wk_region, wkl_nil, wkl_cons, wk_cond, wkc_bool, wk_skip, wk_exit, wk_ret, ap_top, ap_seqN, ap_seqE, ap_seqR, ap_blkN, ap_blkE, ap_blkR, ap_invN, ap_invE, ap_invR, want_none, sop, wkr_some, wkr_map, wko_some, ev_tmp, ev_const, ev_func, tmps0, Tr.get_put, Tr.get_set, get_leaf, callS, evs, List.map_cons, List.map_nil, ↓reduceIte, Option.some.injEq, Nat.reduceEqDiff, bin_lss, bin_leq, bin_gtr, bin_geq, bin_eql, bin_neq, bin_add, bin_sub, bin_mul, max2, min2, resS, resV, decide_eq_true_eq, decide_eq_false_iff_not, beq_iff_eq, true_and, and_true, or_true, true_or, exists_eq_left', Option.map_some, Option.map_none, want_some, Option.bind_some, reduceCtorEq, List.nil_append, List.append_nil, List.cons_append, Value.int.injEq, wantD_some, List.getElem?_toArray, List.getElem?_cons_succ, List.getElem?_cons_zero, decide_true, decide_false, beq_self_eq_true, wantG_true, wantG_false, Bool.not_true, Bool.not_false, Bool.false_eq_true, if_true, if_false, flat_bool, flat_int, pure_not, pure_neg, h0, h5, h6, hix2, hst]
    refine ⟨hlt', ?_, by rw [t2.nx, hnx], by rw [t2.fl, hfl], t2.wf, fun i hi => by rw [t2.old i hi, hold i hi], _, t2.new, ?_⟩
    · rw [wrap_id (by omega) (by omega)]; rfl
    · rw [lay_length (by simp; omega), hcl]
end
end Go.Proofs.YtdhehcalmjcpgaaDoor
