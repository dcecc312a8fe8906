/- CostSums, by the shadow reading: it answers true. -/
import Derived.Test.YtdhehcalmjcpgaaDoorSxLend
import Derived.Test.YtdhehcalmjcpgaaDoorSxH10
namespace Go.Proofs.YtdhehcalmjcpgaaDoor
open Go Go.Sx
set_option maxRecDepth 100000
set_option linter.unusedSimpArgs false
set_option linter.unusedVariables false

theorem base10_head {h : SHeap} (hg : h.get 0 = wordsRow) : base10 48 [] h = some (.bool true, h) := by
  unfold base10 closedB
  rw [if_pos ⟨rfl, rfl, hg⟩]
theorem base10_none {f : FuncId} {args : List Value} {h : SHeap} (hf : f ≠ 48) : base10 f args h = none := by
  unfold base10 closedB
  rw [if_neg (fun hc => hf hc.1)]

noncomputable def G (n : Nat) : SCall := fun f args h => callG Tryd.prog base10 n f args h
theorem G_at {n : Nat} {f : FuncId} {args : List Value} {h : SHeap} (hf : f ≠ 48) : G (n + 1) f args h = bodyF Tryd.prog (G n) n f args h := by
  unfold G
  simp only [callG, base10_none hf]
theorem G_head {n : Nat} {h : SHeap} (hg : h.get 0 = wordsRow) : G (n + 1) 48 [] h = some (.bool true, h) := by
  unfold G
  simp only [callG, base10_head hg]

theorem IntsAt.mono2 {h h' : SHeap} {v : Value} {l : List Int} {m : Nat} (hv : IntsAt h v l) (ho : ∀ i, i < h.next → i ≠ m → h'.get i = h.get i) (hm : h.next ≤ m) : IntsAt h' v l :=
  IntsAt.mono hv fun i hi => ho i hi (by omega)
theorem nil_ints (h : SHeap) : IntsAt h (.slice none 0 0) [] := ⟨none, 0, rfl, fun b hb => (by cases hb), fun k x hk => (by simp at hk)⟩

section
variable {n : Nat} {h : SHeap} {v : Value} {l : List Int}
theorem G_sum (hv : IntsAt h v l) (hl : In64 l) (hlen : l.length < 17592186044416) (hn : l.length < n) : G (n + 1) 43 [v] h = some (.int .i64 (satSum l), h) := by
  rw [G_at (by decide), sum_walk hv hl (by omega) hn]
theorem G_times (hv : IntsAt h v l) (hl : In64 l) (hlen : l.length < 17592186044416) (hn : l.length < n) : G (n + 2) 44 [v] h = some (.int .i64 (satTimes l), h) := by
  rw [G_at (by decide), times_walk (fun x y h hx hy => by rw [G_at (by decide), mul64_walk x y hx hy]) hv hl (by omega) (by omega)]
theorem G_rsum (hv : IntsAt h v l) (hlen : l.length < 17592186044416) (hn : l.length < n) : G (n + 2) 46 [v] h = some (.int .i64 (satSum l), h) := by
  rw [G_at (by decide), rsum_walk (fun x h => by rw [G_at (by decide), part_walk]) (fun a b h ha hb => by rw [G_at (by decide), plus_walk ha hb]) hv (by omega) (by omega)]
theorem G_rtimes (hv : IntsAt h v l) (hlen : l.length < 17592186044416) (hn : l.length < n) : G (n + 2) 47 [v] h = some (.int .i64 (satTimes l), h) := by
  rw [G_at (by decide), rtimes_walk (fun x h => by rw [G_at (by decide), part_walk]) (fun a b h ha hb => by rw [G_at (by decide), by_walk ha hb]) hv (by omega) (by omega)]

theorem costSums_walk (hv : IntsAt h v l) (hl : In64 l) (hlen : l.length < 17592186044416) (hn : l.length < n) (hw : wf h) (hf : h.floor ≤ h.next) (h0 : h.get 0 = wordsRow) :
    ∃ h', G (n + 4) 12 [v] h = some (.bool true, h') := by
  obtain ⟨h1, e42, L⟩ := lend_walk (call := G (n + 2)) (n := n + 2) hv hw hf hlen
  have hlt0 : 0 < h.next := row_lt h0
  have hv1 := IntsAt.mono hv L.old
  have hlent : IntsAt h1 (.slice (some ⟨h.next, 0, none⟩) l.length (l.length + 3)) l := by
    refine ⟨_, _, rfl, fun b hb => by cases hb; rfl, fun k x hk => ⟨h.next, 0, _, _, _, _, rfl, L.new, ?_⟩⟩
    have hlt : k < l.length := (List.getElem?_eq_some_iff.1 hk).1
    rw [Nat.zero_add, List.getElem?_append_left (by rw [ints_len]; exact hlt), ints_get, hk]
    rfl
  obtain ⟨h2, e45, k1, k2, k3, k4⟩ := kept_walk (call := G (n + 2)) (n := n + 2) (fun hh a b => by rw [G_at (by decide), same_walk a b (by omega) (by omega)]) hv1 L.wf L.new (by rw [L.fl]; exact hf) hlen (by omega)
  have hv2 : IntsAt h2 v l := IntsAt.mono hv fun i hi => by rw [k4 i (by omega), L.old i hi]
  have hg2 : h2.get 0 = wordsRow := by rw [k4 0 (by omega), L.old 0 hlt0, h0]
  have e42' : G (n + 3) 42 [v] h = _ := (G_at (by decide)).trans e42
  have e45' : G (n + 3) 45 [.slice (some ⟨h.next, 0, none⟩) l.length (l.length + 3), v] h1 = _ := (G_at (by decide)).trans e45
  have e43 := G_sum (n := n + 2) hlent hl hlen (by omega)
  have e44 := G_times (n := n + 1) hlent hl hlen (by omega)
  have e46 := G_rsum (n := n + 1) hv2 hlen (by omega)
  have e47 := G_rtimes (n := n + 1) hv2 hlen (by omega)
  have z43 : G (n + 3) 43 [.slice none 0 0] h2 = some (.int .i64 0, h2) := G_sum (n := n + 2) (nil_ints h2) (fun x hx => by cases hx) (by simp) (by simp)
  have z44 : G (n + 3) 44 [.slice none 0 0] h2 = some (.int .i64 1, h2) := G_times (n := n + 1) (nil_ints h2) (fun x hx => by cases hx) (by simp) (by simp)
  have e48 := G_head (n := n + 2) hg2
  refine ⟨h2, (G_at (by decide)).trans ?_⟩
  refine call_is Tryd.func12 rfl (by simp [Tryd.f12]) ?_
  have hr : Tryd.f12.results.toList = [.tmp 2] := rfl
  simp only [wk_seq, wk_block, wk_region, wkl_nil, wkl_cons, wk_cond, wkc_bool, wk_skip, wk_exit, wk_ret, ap_top, ap_seqN, ap_seqE, ap_seqR, ap_blkN, ap_blkE, ap_blkR, ap_invN, ap_invE, ap_invR, want_none, sop, wkr_some, wkr_map, wko_some, ev_tmp, ev_const, ev_func, tmps0, Tr.get_put, Tr.get_set, get_leaf, callS, evs, List.map_cons, List.map_nil, ↓reduceIte, Option.some.injEq, Nat.reduceEqDiff, bin_lss, bin_leq, bin_gtr, bin_geq, bin_eql, bin_neq, bin_add, bin_sub, bin_mul, max2, min2, resS, resV, decide_eq_true_eq, decide_eq_false_iff_not, beq_iff_eq, true_and, and_true, or_true, true_or, exists_eq_left', Option.map_some, Option.map_none, want_some, Option.bind_some, reduceCtorEq, List.nil_append, List.append_nil, List.cons_append, Value.int.injEq, wantD_some, List.getElem?_toArray, List.getElem?_cons_succ, List.getElem?_cons_zero, decide_true, decide_false, beq_self_eq_true, wantG_true, wantG_false, Bool.not_true, Bool.not_false, Bool.false_eq_true, if_true, if_false, flat_bool, flat_int, pure_not, pure_neg, hr, e42', e43, e44, e45', e46, e47, z43, z44, e48]
end
end Go.Proofs.YtdhehcalmjcpgaaDoor
