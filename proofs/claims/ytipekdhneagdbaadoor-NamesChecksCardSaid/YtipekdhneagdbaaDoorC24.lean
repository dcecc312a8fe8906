/- Part 24 of what the claim leans on: 3 texts laid one behind another. -/
import Derived.Test.YtipekdhneagdbaaDoorC23
namespace Go.Proofs.YtipekdhneagdbaaDoor
open Go Go.Sx
set_option maxRecDepth 100000
set_option linter.unusedSimpArgs false
set_option linter.unusedVariables false
theorem idx0 {P : Program} {t e : TypeId} {w id n c i : Nat} (ht : P.underlying t = some (.slice e)) (he : szOf P e = some w) (hi : i < n) : J0R P t (.slice (some ⟨id, 0, none⟩) n c) (iv (i : Int)) = some (.pointer (some ⟨id, i * w, none⟩)) := by
 simp only [J0R, ht, he, J0q]
 rw [if_pos (by omega)]
 simp
theorem st_any {P : Program} {t : TypeId} {k : Nat} {h : SHeap} {id off : Nat} {cs : List Value} {ty : TypeId} {g : Bool} {v : Value} (ht : szOf P t = some k) (hk : v.cells.size = k) (ho : v.cells.toList.all one = true) (hg : h.get id = .row cs ty g false) (hl : off + k ≤ cs.length) (hf : h.floor ≤ id) :
  ∃ cs', J0K P h t (.pointer (some ⟨id, off, none⟩)) v = some (h.put id (.row cs' ty g false)) ∧ cs'.length = cs.length := by
 refine ⟨Go.Sx.lay cs off v.cells.toList, ?_, ?_⟩
 ·simp only [J0K, ht, J1q, hg]
  rw [if_pos (by rw [hk]), if_pos (by simp only [ho, Array.length_toList, hk, Bool.and_true, Bool.and_eq_true, decide_eq_true_eq]; omega)]
 ·simp only [Go.Sx.lay, List.length_append, List.length_take, List.length_drop, Array.length_toList, hk]
  omega
theorem lent_rows {h : SHeap} {o : Nat} {l L : List RowN} (hL : LentAt h o l L) (ho : o < h.next) : J0l h (.slice (some ⟨o, 0, none⟩) l.length (l.length + 9)) l := by
 refine ⟨_, _, rfl, .inr ⟨o, 0, _, _, _, _, rfl, hL.g, ho, fun k r hk => ?_⟩⟩
 have hkl := (List.getElem?_eq_some_iff.1 hk).1
 rw [Nat.zero_add]
 exact J2Y ((hL.own k hkl).trans hk)
theorem LentC.ld {h : SHeap} {o n w : Nat} {cs mk z : List Value} {e : TypeId} (hl : LentC h o n w cs mk z e) {j : Nat} (hj : j < w) : ld1 (n * w + j) (h.get o) = mk[j]? := by
 rw [hl.g]
 simp only [ld1]
 rw [List.getElem?_append_right (by rw [hl.len]; omega), hl.len, Nat.add_sub_cancel_left, List.getElem?_append_left (by rw [hl.mlen]; exact hj)]
theorem LentC.size {h : SHeap} {o n w : Nat} {cs mk z : List Value} {e : TypeId} (hl : LentC h o n w cs mk z e) : (cs ++ (mk ++ J3e z 2)).length = (n + 3) * w := by
 rw [List.length_append, List.length_append, zeros_len, hl.len, hl.mlen, hl.zlen]
 simp only [Nat.add_mul]
 omega
section
variable {n N : Nat} {h : SHeap}
set_option maxHeartbeats 4000000 in
theorem keptInts_walk {l : List Int} {v : Value} {o lo : Nat} (hL : LentC h o l.length 1 (ints l) [iv (-77)] [iv 0] 3) (ho : o < h.next) (hf : h.floor ≤ o) (hv : J1S lo h v l) (hl : l.length < 900000000) (hn : l.length + 10 < n) (hN : l.length + 10 < N) :
  ∃ h', J0L Tryd.prog (J0T n) N 70 [.slice (some ⟨o, 0, none⟩) l.length (l.length + 3), v] h = some (.bool true, h') ∧ (h'.next = h.next ∧ h'.floor = h.floor ∧ ∀ i, i ≠ o → h'.get i = h.get i) := by
 refine J1N (R := fun h' => h'.next = h.next ∧ h'.floor = h.floor ∧ ∀ i, i ≠ o → h'.get i = h.get i) Tryd.func70 rfl (by simp [Tryd.f70]) ?_
 have hr : Tryd.f70.results.toList = [.tmp 4] := rfl
 have hM : J1S 0 h (.slice (some ⟨o, 0, none⟩) l.length (l.length + 3)) l := hL.cells ⟨Nat.zero_le _, ho⟩
 have hsame := J78 (n := n) hM hv (by omega) (by omega)
 rw [decide_eq_true rfl] at hsame
 have hlen := fun h' => JfF hv h'
 have hlenM := fun h' => JfF hM h'
 have w1 : IntKind.i64.wrap ((l.length : Int) + 1) = ((l.length + 1 : Nat) : Int) := J0s (by omega) (by omega)
 have hsl := fun (H : SHeap) => slice_in0 (h := H) (id := o) (n := l.length) (m := l.length + 1) (c := l.length + 3) Tryd.underlying28 sz3 (by omega) (by unfold unk; omega)
 have hix := idx0 (id := o) (n := l.length + 1) (c := l.length + 3) (i := l.length) Tryd.underlying28 sz3 (by omega)
 have hld : ld1 (l.length * 1) (h.get o) = some (iv (-77)) := hL.ld (j := 0) (by decide)
 simp only [evC, seval, ↓evP, hsame, hlen, w1, hsl, hix, J0m, hld, Int.reduceBEq, BEq.rfl]
 refine WK.loop (fun i s' => s'.T.get 0 = .slice (some ⟨o, 0, none⟩) l.length (l.length + 3) ∧ s'.T.get 5 = .bool true ∧ s'.T.get 6 = iv i ∧ i ≤ l.length ∧ s'.h.next = h.next ∧ s'.h.floor = h.floor ∧ (∀ i, i ≠ o → s'.h.get i = h.get i) ∧ ∃ CS, s'.h.get o = .row CS 3 false false ∧ CS.length = (l.length + 3) * 1) l.length (by omega) ?_ ?_
 ·exact ⟨by simp only [evC, ↓reduceIte, Nat.reduceEqDiff, reduceCtorEq, ↓evP, rpC, Nat.reduceAdd, Nat.reduceLT], by simp only [evC, ↓reduceIte, Nat.reduceEqDiff, reduceCtorEq, ↓evP, rpC, Nat.reduceAdd, Nat.reduceLT], by simp only [evC, ↓reduceIte, Nat.reduceEqDiff, reduceCtorEq, ↓evP, rpC, Nat.reduceAdd, Nat.reduceLT]; rfl, by omega, rfl, rfl, fun _ _ => rfl, _, hL.g, hL.size⟩
 rintro i ⟨T1, H1⟩ hi ⟨t0, t5, t6, hil, n1, f1, o1, CS, gC, lC⟩
 simp only at t0 t5 t6 n1 f1 o1 gC
 by_cases hlt : i < l.length
 ·have c1 : decide ((i : Int) < (l.length : Int)) = true := by simp; omega
  have hix := idx0 (id := o) (n := l.length) (c := l.length + 3) (i := i) Tryd.underlying28 sz3 hlt
  obtain ⟨CS', hst, hl'⟩ := st_any (off := i * 1) (v := iv (-78)) sz3 rfl rfl gC (by omega) (by omega)
  have w2 : IntKind.i64.wrap ((i : Int) + 1) = ((i + 1 : Nat) : Int) := J0s (by omega) (by omega)
  simp only [evC, seval, ↓evP, t0, t5, t6, hlenM, c1, hix, hst, w2]
  exact ⟨hlt, by omega, n1, f1, fun j hj => by rw [J05 (by omega) (Ne.symm hj)]; exact o1 j hj, CS', J0b rfl (by omega), by omega⟩
 have c1 : decide ((i : Int) < (l.length : Int)) = false := by simp; omega
 simp only [evC, seval, ↓evP, hr, t0, t5, t6, hlenM, c1]
 exact ⟨n1, f1, o1⟩
theorem k_keptInts {l : List Int} {v : Value} {o lo : Nat} (hL : LentC h o l.length 1 (ints l) [iv (-77)] [iv 0] 3) (ho : o < h.next) (hf : h.floor ≤ o) (hv : J1S lo h v l) (hl : l.length < 900000000) (hn : l.length + 20 < n) :
  ∃ h', J0T n 70 [.slice (some ⟨o, 0, none⟩) l.length (l.length + 3), v] h = some (.bool true, h') ∧ (h'.next = h.next ∧ h'.floor = h.floor ∧ ∀ i, i ≠ o → h'.get i = h.get i) := by
 obtain ⟨n, rfl⟩ : ∃ j, n = j + 1 := ⟨n - 1, by omega⟩
 exact k_wr (J13 ⟨rfl, rfl, rfl⟩) (keptInts_walk hL ho hf hv hl (by omega) (by omega))
noncomputable def ops23_2 : Array Oper := J18 Tryd.f23 2
def fs23_2 : List (Bool × Bool × List Operand) := [(false, false, []), (false, false, []), (false, true, []), (false, true, []), (false, true, [.tmp 17]), (false, true, [.tmp 17]), (false, true, [.tmp 17]), (false, true, [.tmp 17]), (false, true, []), (false, true, [.tmp 17, .tmp 19, .tmp 18]), (false, true, [.tmp 17, .tmp 19, .tmp 18]), (false, true, [.tmp 17, .tmp 19, .tmp 18]), (false, false, []), (false, false, []), (false, false, []), (false, false, []), (false, false, []), (false, false, []), (false, true, []), (false, true, []), (false, true, [.tmp 33]), (false, true, [.tmp 33]), (false, true, [.tmp 33]), (false, true, [.tmp 33]), (false, true, []), (false, true, [.tmp 33, .tmp 35, .tmp 34]), (false, true, [.tmp 33, .tmp 35, .tmp 34]), (false, true, [.tmp 33, .tmp 35, .tmp 34]), (false, false, []), (false, false, []), (false, false, []), (false, false, []), (false, false, []), (false, true, []), (false, true, []), (false, true, [.tmp 48]), (false, true, [.tmp 48]), (false, true, [.tmp 48]), (false, true, [.tmp 48]), (false, true, []), (false, true, [.tmp 48, .tmp 50, .tmp 49]), (false, true, [.tmp 48, .tmp 50, .tmp 49]), (false, true, [.tmp 48, .tmp 50, .tmp 49]), (false, false, []), (false, false, []), (false, false, []), (false, false, []), (false, false, [])]
theorem flags23_2 : J1E ops23_2 = fs23_2 := by kernel_rfl
theorem gd23_2 : (ops23_2[1]?).bind (·.dst) = some 16 ∧ (ops23_2[17]?).bind (·.dst) = some 32 ∧ (ops23_2[32]?).bind (·.dst) = some 47 := ⟨by kernel_rfl, by kernel_rfl, by kernel_rfl⟩
set_option maxHeartbeats 16000000 in
theorem kept7_walk {nm : ByteArray} {s : StN} {pv v : Value} {lo b : Nat} {o : Nat → Nat} {h0 : SHeap} (hL : LentPol h b v nm s o) (hp : J3x lo h0 pv nm s) (hb : h0.next ≤ b) (h0g : ∀ i, i < h0.next → h.get i = h0.get i) (hf : h.floor ≤ b) (hs : JdC s) (hl : s.rows.length < 900000000) (hl2 : s.rules.length < 900000000 ∧ s.on.length < 900000000) (hn : Jbg s + 60 < n) (hN : Jbg s + 60 < N) :
  ∃ h', J0L Tryd.prog (J0T n) N 23 [v, pv] h = some (.bool true, h') ∧ (h.next ≤ h'.next ∧ h'.floor = h.floor ∧ ∀ i, i < b → h'.get i = h.get i) := by
 obtain ⟨vr, vq, vv, vt, vu, vo, rfl, p1, p2, p3, p4, p5, p6⟩ := id hp
 obtain ⟨aq, cq, rfl, _⟩ := id p2.2
 obtain ⟨av, cv, rfl, _⟩ := id p3.2
 obtain ⟨at_, ct, rfl, _⟩ := id p4.2
 obtain ⟨rfl, ⟨u1, u2, u3, u4, u5, u6, u7⟩, ⟨L, L1⟩, L2, L3, L4, L5, L6⟩ := hL
 have hsn := (J1z n).2
 refine J1N (R := fun h' => h.next ≤ h'.next ∧ h'.floor = h.floor ∧ ∀ i, i < b → h'.get i = h.get i) Tryd.func23 rfl (by simp [Tryd.f23]) ?_
 have hr : Tryd.f23.results.toList = [.tmp 4] := rfl
 have hs' := hs
 obtain ⟨q1, q2, q3, q4, q5, q6⟩ := hs
 have htot : Jbg s = s.rows.length + s.queues.length + s.vars.length + s.tags.length + s.rules.length + s.on.length := rfl
 have ca : (Value.agg #[.string nm, .slice (some ⟨o 1, 0, none⟩) s.rows.length (s.rows.length + 9), .slice (some ⟨o 2, 0, none⟩) s.queues.length (s.queues.length + 3), .slice (some ⟨o 3, 0, none⟩) s.vars.length (s.vars.length + 3), .slice (some ⟨o 4, 0, none⟩) s.tags.length (s.tags.length + 3), .slice (some ⟨o 5, 0, none⟩) s.rules.length (s.rules.length + 3), .slice (some ⟨o 6, 0, none⟩) s.on.length (s.on.length + 3), iv s.miss]).cells.toList = [.string nm, .slice (some ⟨o 1, 0, none⟩) s.rows.length (s.rows.length + 9), .slice (some ⟨o 2, 0, none⟩) s.queues.length (s.queues.length + 3), .slice (some ⟨o 3, 0, none⟩) s.vars.length (s.vars.length + 3), .slice (some ⟨o 4, 0, none⟩) s.tags.length (s.tags.length + 3), .slice (some ⟨o 5, 0, none⟩) s.rules.length (s.rules.length + 3), .slice (some ⟨o 6, 0, none⟩) s.on.length (s.on.length + 3), iv s.miss] := rfl
 have oa : [Value.string nm, .slice (some ⟨o 1, 0, none⟩) s.rows.length (s.rows.length + 9), .slice (some ⟨o 2, 0, none⟩) s.queues.length (s.queues.length + 3), .slice (some ⟨o 3, 0, none⟩) s.vars.length (s.vars.length + 3), .slice (some ⟨o 4, 0, none⟩) s.tags.length (s.tags.length + 3), .slice (some ⟨o 5, 0, none⟩) s.rules.length (s.rules.length + 3), .slice (some ⟨o 6, 0, none⟩) s.on.length (s.on.length + 3), iv s.miss].all one = true := rfl
 have cb : (Value.agg #[.string nm, vr, .slice aq s.queues.length cq, .slice av s.vars.length cv, .slice at_ s.tags.length ct, vu, vo, iv s.miss]).cells.toList = [.string nm, vr, .slice aq s.queues.length cq, .slice av s.vars.length cv, .slice at_ s.tags.length ct, vu, vo, iv s.miss] := rfl
 have ob := all8 (nm := nm) p1 p2 p3 p4 p5 p6
 obtain ⟨x0, x1, x2, x3, x4, x5, x6, x7⟩ := Jhw (a := .string nm) (b := .slice (some ⟨o 1, 0, none⟩) s.rows.length (s.rows.length + 9)) (c := .slice (some ⟨o 2, 0, none⟩) s.queues.length (s.queues.length + 3)) (d := .slice (some ⟨o 3, 0, none⟩) s.vars.length (s.vars.length + 3)) (e := .slice (some ⟨o 4, 0, none⟩) s.tags.length (s.tags.length + 3)) (f := .slice (some ⟨o 5, 0, none⟩) s.rules.length (s.rules.length + 3)) (g := .slice (some ⟨o 6, 0, none⟩) s.on.length (s.on.length + 3)) (i := iv s.miss) (ty := 30) (x := false) (y := false)
 obtain ⟨y0, y1, y2, y3, y4, y5, y6, y7⟩ := Jhw (a := .string nm) (b := vr) (c := .slice aq s.queues.length cq) (d := .slice av s.vars.length cv) (e := .slice at_ s.tags.length ct) (f := vu) (g := vo) (i := iv s.miss) (ty := 30) (x := false) (y := false)
 have len2 := JfC p2
 have len3 := JfT p3
 have len4 := JfT p4
 have lenM2 : ∀ h' : SHeap, lenS Tryd.prog h' 26 (.slice (some ⟨o 2, 0, none⟩) s.queues.length (s.queues.length + 3)) = some (iv (s.queues.length : Int)) := fun h' => by simp [lenS, Tryd.underlying26]
 have lenM3 : ∀ h' : SHeap, lenS Tryd.prog h' 27 (.slice (some ⟨o 3, 0, none⟩) s.vars.length (s.vars.length + 3)) = some (iv (s.vars.length : Int)) := fun h' => by simp [lenS, Tryd.underlying27]
 have lenM4 : ∀ h' : SHeap, lenS Tryd.prog h' 27 (.slice (some ⟨o 4, 0, none⟩) s.tags.length (s.tags.length + 3)) = some (iv (s.tags.length : Int)) := fun h' => by simp [lenS, Tryd.underlying27]
 simp only [evC, seval, ↓evP, rpD, J0X, J2t, ca, oa, cb, ob, sz30]
 have gA : ((h.push (.row [.string nm, .slice (some ⟨o 1, 0, none⟩) s.rows.length (s.rows.length + 9), .slice (some ⟨o 2, 0, none⟩) s.queues.length (s.queues.length + 3), .slice (some ⟨o 3, 0, none⟩) s.vars.length (s.vars.length + 3), .slice (some ⟨o 4, 0, none⟩) s.tags.length (s.tags.length + 3), .slice (some ⟨o 5, 0, none⟩) s.rules.length (s.rules.length + 3), .slice (some ⟨o 6, 0, none⟩) s.on.length (s.on.length + 3), iv s.miss] 30 false false)).push (.row [.string nm, vr, .slice aq s.queues.length cq, .slice av s.vars.length cv, .slice at_ s.tags.length ct, vu, vo, iv s.miss] 30 false false)).get h.next = .row [.string nm, .slice (some ⟨o 1, 0, none⟩) s.rows.length (s.rows.length + 9), .slice (some ⟨o 2, 0, none⟩) s.queues.length (s.queues.length + 3), .slice (some ⟨o 3, 0, none⟩) s.vars.length (s.vars.length + 3), .slice (some ⟨o 4, 0, none⟩) s.tags.length (s.tags.length + 3), .slice (some ⟨o 5, 0, none⟩) s.rules.length (s.rules.length + 3), .slice (some ⟨o 6, 0, none⟩) s.on.length (s.on.length + 3), iv s.miss] 30 false false := J4c
 have gB : ((h.push (.row [.string nm, .slice (some ⟨o 1, 0, none⟩) s.rows.length (s.rows.length + 9), .slice (some ⟨o 2, 0, none⟩) s.queues.length (s.queues.length + 3), .slice (some ⟨o 3, 0, none⟩) s.vars.length (s.vars.length + 3), .slice (some ⟨o 4, 0, none⟩) s.tags.length (s.tags.length + 3), .slice (some ⟨o 5, 0, none⟩) s.rules.length (s.rules.length + 3), .slice (some ⟨o 6, 0, none⟩) s.on.length (s.on.length + 3), iv s.miss] 30 false false)).push (.row [.string nm, vr, .slice aq s.queues.length cq, .slice av s.vars.length cv, .slice at_ s.tags.length ct, vu, vo, iv s.miss] 30 false false)).get (h.next + 1) = .row [.string nm, vr, .slice aq s.queues.length cq, .slice av s.vars.length cv, .slice at_ s.tags.length ct, vu, vo, iv s.miss] 30 false false := J48
 have gO : ∀ i, i < h.next → ((h.push (.row [.string nm, .slice (some ⟨o 1, 0, none⟩) s.rows.length (s.rows.length + 9), .slice (some ⟨o 2, 0, none⟩) s.queues.length (s.queues.length + 3), .slice (some ⟨o 3, 0, none⟩) s.vars.length (s.vars.length + 3), .slice (some ⟨o 4, 0, none⟩) s.tags.length (s.tags.length + 3), .slice (some ⟨o 5, 0, none⟩) s.rules.length (s.rules.length + 3), .slice (some ⟨o 6, 0, none⟩) s.on.length (s.on.length + 3), iv s.miss] 30 false false)).push (.row [.string nm, vr, .slice aq s.queues.length cq, .slice av s.vars.length cv, .slice at_ s.tags.length ct, vu, vo, iv s.miss] 30 false false)).get i = h.get i := fun i hi => by rw [J06 (by show i < h.next + 1; omega), J06 hi]
 have nG : ((h.push (.row [.string nm, .slice (some ⟨o 1, 0, none⟩) s.rows.length (s.rows.length + 9), .slice (some ⟨o 2, 0, none⟩) s.queues.length (s.queues.length + 3), .slice (some ⟨o 3, 0, none⟩) s.vars.length (s.vars.length + 3), .slice (some ⟨o 4, 0, none⟩) s.tags.length (s.tags.length + 3), .slice (some ⟨o 5, 0, none⟩) s.rules.length (s.rules.length + 3), .slice (some ⟨o 6, 0, none⟩) s.on.length (s.on.length + 3), iv s.miss] 30 false false)).push (.row [.string nm, vr, .slice aq s.queues.length cq, .slice av s.vars.length cv, .slice at_ s.tags.length ct, vu, vo, iv s.miss] 30 false false)).next = h.next + 2 := rfl
 have fG : ((h.push (.row [.string nm, .slice (some ⟨o 1, 0, none⟩) s.rows.length (s.rows.length + 9), .slice (some ⟨o 2, 0, none⟩) s.queues.length (s.queues.length + 3), .slice (some ⟨o 3, 0, none⟩) s.vars.length (s.vars.length + 3), .slice (some ⟨o 4, 0, none⟩) s.tags.length (s.tags.length + 3), .slice (some ⟨o 5, 0, none⟩) s.rules.length (s.rules.length + 3), .slice (some ⟨o 6, 0, none⟩) s.on.length (s.on.length + 3), iv s.miss] 30 false false)).push (.row [.string nm, vr, .slice aq s.queues.length cq, .slice av s.vars.length cv, .slice at_ s.tags.length ct, vu, vo, iv s.miss] 30 false false)).floor = h.floor := rfl
 generalize (h.push (.row [.string nm, .slice (some ⟨o 1, 0, none⟩) s.rows.length (s.rows.length + 9), .slice (some ⟨o 2, 0, none⟩) s.queues.length (s.queues.length + 3), .slice (some ⟨o 3, 0, none⟩) s.vars.length (s.vars.length + 3), .slice (some ⟨o 4, 0, none⟩) s.tags.length (s.tags.length + 3), .slice (some ⟨o 5, 0, none⟩) s.rules.length (s.rules.length + 3), .slice (some ⟨o 6, 0, none⟩) s.on.length (s.on.length + 3), iv s.miss] 30 false false)).push (.row [.string nm, vr, .slice aq s.queues.length cq, .slice av s.vars.length cv, .slice at_ s.tags.length ct, vu, vo, iv s.miss] 30 false false) = G at *
 have L1 : LentAt G (o 1) s.rows L := ⟨by rw [gO _ (by omega)]; exact L1.g, L1.len, L1.own, L1.marks⟩
 have L2 := L2.mono (gO (o 2) (by omega))
 have L3 := L3.mono (gO (o 3) (by omega))
 have L4 := L4.mono (gO (o 4) (by omega))
 have L5 := L5.mono (gO (o 5) (by omega))
 have L6 := L6.mono (gO (o 6) (by omega))
 have hpG : J3x lo G (.agg #[.string nm, vr, .slice aq s.queues.length cq, .slice av s.vars.length cv, .slice at_ s.tags.length ct, vu, vo, iv s.miss]) nm s := hp.mono (by omega) fun i _ hi => by rw [gO i (by omega), h0g i hi]
 have hrM : J3P 0 G (.slice (some ⟨o 1, 0, none⟩) s.rows.length (s.rows.length + 9)) s.rows := J0l.cells (lent_rows L1 (by omega))
 have hpM : J3x 0 G (.agg #[.string nm, .slice (some ⟨o 1, 0, none⟩) s.rows.length (s.rows.length + 9), .slice (some ⟨o 2, 0, none⟩) s.queues.length (s.queues.length + 3), .slice (some ⟨o 3, 0, none⟩) s.vars.length (s.vars.length + 3), .slice (some ⟨o 4, 0, none⟩) s.tags.length (s.tags.length + 3), .slice (some ⟨o 5, 0, none⟩) s.rules.length (s.rules.length + 3), .slice (some ⟨o 6, 0, none⟩) s.on.length (s.on.length + 3), iv s.miss]) nm s := ⟨_, _, _, _, _, _, rfl, hrM, L2.cells ⟨Nat.zero_le _, by omega⟩, L3.cells ⟨Nat.zero_le _, by omega⟩, L4.cells ⟨Nat.zero_le _, by omega⟩, L5.cells ⟨Nat.zero_le _, by omega⟩, L6.cells ⟨Nat.zero_le _, by omega⟩⟩
 obtain ⟨bb, hsame, hbb⟩ := JgK (n := n) hpM hpG hs' (by omega)
 obtain rfl : bb = true := hbb.2 (J8U _ _)
 have lA : ldN 8 0 (G.get h.next) = some (.agg #[.string nm, .slice (some ⟨o 1, 0, none⟩) s.rows.length (s.rows.length + 9), .slice (some ⟨o 2, 0, none⟩) s.queues.length (s.queues.length + 3), .slice (some ⟨o 3, 0, none⟩) s.vars.length (s.vars.length + 3), .slice (some ⟨o 4, 0, none⟩) s.tags.length (s.tags.length + 3), .slice (some ⟨o 5, 0, none⟩) s.rules.length (s.rules.length + 3), .slice (some ⟨o 6, 0, none⟩) s.on.length (s.on.length + 3), iv s.miss]) := J9E gA rfl
 have lB : ldN 8 0 (G.get (h.next + 1)) = some (.agg #[.string nm, vr, .slice aq s.queues.length cq, .slice av s.vars.length cv, .slice at_ s.tags.length ct, vu, vo, iv s.miss]) := J9E gB rfl
 simp only [evC, seval, ↓evP, J1b, lA, lB, hsame]
 rw [← gA] at x0 x1 x2 x3 x4 x5 x6 x7
 rw [← gB] at y0 y1 y2 y3 y4 y5 y6 y7
 have v2 : IntKind.i64.wrap ((s.queues.length : Int) + 1) = ((s.queues.length + 1 : Nat) : Int) := J0s (by omega) (by omega)
 have v3 : IntKind.i64.wrap ((s.vars.length : Int) + 1) = ((s.vars.length + 1 : Nat) : Int) := J0s (by omega) (by omega)
 have v4 : IntKind.i64.wrap ((s.tags.length : Int) + 1) = ((s.tags.length + 1 : Nat) : Int) := J0s (by omega) (by omega)
 have s2 := fun (H : SHeap) => slice_in0 (h := H) (id := o 2) (n := s.queues.length) (m := s.queues.length + 1) (c := s.queues.length + 3) Tryd.underlying26 sz57 (by omega) (by unfold unk; omega)
 have s3 := fun (H : SHeap) => slice_in0 (h := H) (id := o 3) (n := s.vars.length) (m := s.vars.length + 1) (c := s.vars.length + 3) Tryd.underlying27 sz9 (by omega) (by unfold unk; omega)
 have s4 := fun (H : SHeap) => slice_in0 (h := H) (id := o 4) (n := s.tags.length) (m := s.tags.length + 1) (c := s.tags.length + 3) Tryd.underlying27 sz9 (by omega) (by unfold unk; omega)
 have i2 := idx0 (id := o 2) (n := s.queues.length + 1) (c := s.queues.length + 3) (i := s.queues.length) Tryd.underlying26 sz57 (by omega)
 have i3 := idx0 (id := o 3) (n := s.vars.length + 1) (c := s.vars.length + 3) (i := s.vars.length) Tryd.underlying27 sz9 (by omega)
 have i4 := idx0 (id := o 4) (n := s.tags.length + 1) (c := s.tags.length + 3) (i := s.tags.length) Tryd.underlying27 sz9 (by omega)
 have m2 : ld1 (s.queues.length * 2) (G.get (o 2)) = some (.string JcY) := L2.ld (j := 0) (by decide)
 have m3 : ld1 (s.vars.length * 1) (G.get (o 3)) = some (.string JcY) := L3.ld (j := 0) (by decide)
 have m4 : ld1 (s.tags.length * 1) (G.get (o 4)) = some (.string JcY) := L4.ld (j := 0) (by decide)
 have hbe : ((JcY : ByteArray) == JcY) = true := J34 _
 refine WK.flags (ops := ops23_2) flags23_2 ?_
 refine WKF.begin ?_
 have FF := And.intro gd23_2.1 (And.intro gd23_2.2.1 (And.intro gd23_2.2.2 (And.intro @J0B (And.intro @J1A (And.intro @J1B (And.intro @J0S (And.intro @J0Y (And.intro @J0d (And.intro @x2 (And.intro @x3 (And.intro @x4 (And.intro @y2 (And.intro @y3 (And.intro @y4 (And.intro @len2 (And.intro @len3 (And.intro @len4 (And.intro @v2 (And.intro @v3 (And.intro @v4 (And.intro @s2 (And.intro @s3 (And.intro @s4 (And.intro @i2 (And.intro @i3 (And.intro @i4 (And.intro @JiV (And.intro @m2 (And.intro @m3 (And.intro @m4 (And.intro @hbe (And.intro @J1g (And.intro @J0J @JiM)))))))))))))))))))))))))))))))))
 refine wst hsn 0 (some 15) (.move (.tmp 5)) none ?_
 simp only [rgC, seval, J04, J02, WKFC, FF]
 refine wst hsn 1 (some 16) (.move (.tmp 15)) none ?_
 simp only [rgC, seval, J04, J02, WKFC, FF]
 refine wst hsn 2 (some 17) (.fieldAddr 30 (.tmp 2) 2) (some (1, true)) ?_
 simp only [rgC, seval, J04, J02, WKFC, Nat.zero_add, FF]
 refine wst hsn 3 (some 18) (.load 26 (.tmp 17)) (some (1, true)) ?_
 simp only [rgC, seval, J04, J02, WKFC, rgL, FF]
 refine wst hsn 4 (some 19) (.fieldAddr 30 (.tmp 3) 2) (some (1, true)) ?_
 simp only [rgC, seval, J04, J02, WKFC, Nat.zero_add, FF]
 refine wst hsn 5 (some 20) (.load 26 (.tmp 19)) (some (1, true)) ?_
 simp only [rgC, seval, J04, J02, WKFC, rgL, FF]
 refine wst hsn 6 (some 21) (.call { callee := .builtin .len, args := #[.tmp 20], argTypes := #[26] }) (some (1, true)) ?_
 simp only [rgC, seval, J04, J02, WKFC, rgK, FF]
 refine wst hsn 7 (some 22) (.binOp .add 3 (.tmp 21) (.const (Value.int IntKind.i64 1)) 3) (some (1, true)) ?_
 simp only [rgC, seval, J04, J02, WKFC, rgB, FF]
 refine wst hsn 8 (some 23) (.slice 26 (.tmp 18) none (some (.tmp 22)) none) (some (1, true)) ?_
 simp only [rgC, seval, J04, J02, WKFC, rgL, FF]
 refine wst hsn 9 (some 24) (.fieldAddr 30 (.tmp 3) 2) (some (1, true)) ?_
 simp only [rgC, seval, J04, J02, WKFC, Nat.zero_add, FF]
 refine wst hsn 10 (some 25) (.load 26 (.tmp 24)) (some (1, true)) ?_
 simp only [rgC, seval, J04, J02, WKFC, rgL, FF]
 refine wst hsn 11 (some 26) (.call { callee := .builtin .len, args := #[.tmp 25], argTypes := #[26] }) (some (1, true)) ?_
 simp only [rgC, seval, J04, J02, WKFC, rgK, FF]
 refine wst hsn 12 (some 27) (.indexAddr 26 (.tmp 23) (.tmp 26)) (some (1, true)) ?_
 simp only [rgC, seval, J04, J02, WKFC, Nat.zero_add, FF]
 refine wst hsn 13 (some 28) (.fieldAddr 57 (.tmp 27) 0) (some (1, true)) ?_
 simp only [rgC, seval, J04, J02, WKFC, Nat.zero_add, FF]
 refine wst hsn 14 (some 29) (.load 9 (.tmp 28)) (some (1, true)) ?_
 simp only [rgC, seval, J04, J02, WKFC, rgL, FF]
 refine wst hsn 15 (some 30) (.binOp .eql 9 (.tmp 29) (.const (Value.string { data := #[108, 101, 110, 116] })) 9) (some (1, true)) ?_
 simp only [rgC, seval, J04, J02, WKFC, rgB, FF]
 refine wst hsn 16 (some 31) (.pick (.tmp 16) (.tmp 30) (.const (Value.bool false))) none ?_
 simp only [rgC, seval, J04, J02, WKFC, FF]
 refine wst hsn 17 (some 32) (.move (.tmp 31)) none ?_
 simp only [rgC, seval, J04, J02, WKFC, FF]
 refine wst hsn 18 (some 33) (.fieldAddr 30 (.tmp 2) 3) (some (17, true)) ?_
 simp only [rgC, seval, J04, J02, WKFC, Nat.zero_add, FF]
 refine wst hsn 19 (some 34) (.load 27 (.tmp 33)) (some (17, true)) ?_
 simp only [rgC, seval, J04, J02, WKFC, rgL, FF]
 refine wst hsn 20 (some 35) (.fieldAddr 30 (.tmp 3) 3) (some (17, true)) ?_
 simp only [rgC, seval, J04, J02, WKFC, Nat.zero_add, FF]
 refine wst hsn 21 (some 36) (.load 27 (.tmp 35)) (some (17, true)) ?_
 simp only [rgC, seval, J04, J02, WKFC, rgL, FF]
 refine wst hsn 22 (some 37) (.call { callee := .builtin .len, args := #[.tmp 36], argTypes := #[27] }) (some (17, true)) ?_
 simp only [rgC, seval, J04, J02, WKFC, rgK, FF]
 refine wst hsn 23 (some 38) (.binOp .add 3 (.tmp 37) (.const (Value.int IntKind.i64 1)) 3) (some (17, true)) ?_
 simp only [rgC, seval, J04, J02, WKFC, rgB, FF]
 refine wst hsn 24 (some 39) (.slice 27 (.tmp 34) none (some (.tmp 38)) none) (some (17, true)) ?_
 simp only [rgC, seval, J04, J02, WKFC, rgL, FF]
 refine wst hsn 25 (some 40) (.fieldAddr 30 (.tmp 3) 3) (some (17, true)) ?_
 simp only [rgC, seval, J04, J02, WKFC, Nat.zero_add, FF]
 refine wst hsn 26 (some 41) (.load 27 (.tmp 40)) (some (17, true)) ?_
 simp only [rgC, seval, J04, J02, WKFC, rgL, FF]
 refine wst hsn 27 (some 42) (.call { callee := .builtin .len, args := #[.tmp 41], argTypes := #[27] }) (some (17, true)) ?_
 simp only [rgC, seval, J04, J02, WKFC, rgK, FF]
 refine wst hsn 28 (some 43) (.indexAddr 27 (.tmp 39) (.tmp 42)) (some (17, true)) ?_
 simp only [rgC, seval, J04, J02, WKFC, Nat.zero_add, FF]
 refine wst hsn 29 (some 44) (.load 9 (.tmp 43)) (some (17, true)) ?_
 simp only [rgC, seval, J04, J02, WKFC, rgL, FF]
 refine wst hsn 30 (some 45) (.binOp .eql 9 (.tmp 44) (.const (Value.string { data := #[108, 101, 110, 116] })) 9) (some (17, true)) ?_
 simp only [rgC, seval, J04, J02, WKFC, rgB, FF]
 refine wst hsn 31 (some 46) (.pick (.tmp 32) (.tmp 45) (.const (Value.bool false))) none ?_
 simp only [rgC, seval, J04, J02, WKFC, FF]
 refine wst hsn 32 (some 47) (.move (.tmp 46)) none ?_
 simp only [rgC, seval, J04, J02, WKFC, FF]
 refine wst hsn 33 (some 48) (.fieldAddr 30 (.tmp 2) 4) (some (32, true)) ?_
 simp only [rgC, seval, J04, J02, WKFC, Nat.zero_add, FF]
 refine wst hsn 34 (some 49) (.load 27 (.tmp 48)) (some (32, true)) ?_
 simp only [rgC, seval, J04, J02, WKFC, rgL, FF]
 refine wst hsn 35 (some 50) (.fieldAddr 30 (.tmp 3) 4) (some (32, true)) ?_
 simp only [rgC, seval, J04, J02, WKFC, Nat.zero_add, FF]
 refine wst hsn 36 (some 51) (.load 27 (.tmp 50)) (some (32, true)) ?_
 simp only [rgC, seval, J04, J02, WKFC, rgL, FF]
 refine wst hsn 37 (some 52) (.call { callee := .builtin .len, args := #[.tmp 51], argTypes := #[27] }) (some (32, true)) ?_
 simp only [rgC, seval, J04, J02, WKFC, rgK, FF]
 refine wst hsn 38 (some 53) (.binOp .add 3 (.tmp 52) (.const (Value.int IntKind.i64 1)) 3) (some (32, true)) ?_
 simp only [rgC, seval, J04, J02, WKFC, rgB, FF]
 refine wst hsn 39 (some 54) (.slice 27 (.tmp 49) none (some (.tmp 53)) none) (some (32, true)) ?_
 simp only [rgC, seval, J04, J02, WKFC, rgL, FF]
 refine wst hsn 40 (some 55) (.fieldAddr 30 (.tmp 3) 4) (some (32, true)) ?_
 simp only [rgC, seval, J04, J02, WKFC, Nat.zero_add, FF]
 refine wst hsn 41 (some 56) (.load 27 (.tmp 55)) (some (32, true)) ?_
 simp only [rgC, seval, J04, J02, WKFC, rgL, FF]
 refine wst hsn 42 (some 57) (.call { callee := .builtin .len, args := #[.tmp 56], argTypes := #[27] }) (some (32, true)) ?_
 simp only [rgC, seval, J04, J02, WKFC, rgK, FF]
 refine wst hsn 43 (some 58) (.indexAddr 27 (.tmp 54) (.tmp 57)) (some (32, true)) ?_
 simp only [rgC, seval, J04, J02, WKFC, Nat.zero_add, FF]
 refine wst hsn 44 (some 59) (.load 9 (.tmp 58)) (some (32, true)) ?_
 simp only [rgC, seval, J04, J02, WKFC, rgL, FF]
 refine wst hsn 45 (some 60) (.binOp .eql 9 (.tmp 59) (.const (Value.string { data := #[108, 101, 110, 116] })) 9) (some (32, true)) ?_
 simp only [rgC, seval, J04, J02, WKFC, rgB, FF]
 refine wst hsn 46 (some 61) (.pick (.tmp 47) (.tmp 60) (.const (Value.bool false))) none ?_
 simp only [rgC, seval, J04, J02, WKFC, FF]
 refine wst hsn 47 (some 5) (.assign (.tmp 61)) none ?_
 simp only [rgC, seval, J04, J02, WKFC, FF]
 refine WKF.done (i := 48) (by kernel_rfl) ?_
 clear FF
 simp only [evC, seval, ↓evP]
 refine WK.loop (fun i s' => s'.T.get 2 = .pointer (some ⟨h.next, 0, none⟩) ∧ s'.T.get 3 = .pointer (some ⟨h.next + 1, 0, none⟩) ∧ s'.T.get 5 = .bool true ∧ s'.T.get 6 = iv i ∧ i ≤ s.queues.length ∧ s'.h.next = G.next ∧ s'.h.floor = G.floor ∧ (∀ i, i ≠ o 2 → s'.h.get i = G.get i) ∧ ∃ CS, s'.h.get (o 2) = .row CS 57 false false ∧ CS.length = (s.queues.length + 3) * 2) s.queues.length (by omega) ?_ ?_
 ·exact ⟨by simp only [evC, ↓reduceIte, Nat.reduceEqDiff, reduceCtorEq, ↓evP, rpC, Nat.reduceAdd, Nat.reduceLT], by simp only [evC, ↓reduceIte, Nat.reduceEqDiff, reduceCtorEq, ↓evP, rpC, Nat.reduceAdd, Nat.reduceLT], by simp only [evC, ↓reduceIte, Nat.reduceEqDiff, reduceCtorEq, ↓evP, rpC, Nat.reduceAdd, Nat.reduceLT], by simp only [evC, ↓reduceIte, Nat.reduceEqDiff, reduceCtorEq, ↓evP, rpC, Nat.reduceAdd, Nat.reduceLT]; rfl, by omega, rfl, rfl, fun _ _ => rfl, _, L2.g, L2.size⟩
 rintro i ⟨T1, G1⟩ hi ⟨t2, t3, t5, t6, hil, n1, f1, o1, CS, gC, lC⟩
 simp only at t2 t3 t5 t6 n1 f1 o1 gC
 have gA1 : G1.get h.next = G.get h.next := o1 _ (by omega)
 by_cases hlt : i < s.queues.length
 ·have c1 : decide ((i : Int) < (s.queues.length : Int)) = true := by simp; omega
  have hix := idx0 (id := o 2) (n := s.queues.length) (c := s.queues.length + 3) (i := i) Tryd.underlying26 sz57 hlt
  obtain ⟨CS', hst, hl'⟩ := st_any (off := i * 2) (v := .agg #[.string J9F, .bool false]) sz57 rfl rfl gC (by omega) (by omega)
  have w2 : IntKind.i64.wrap ((i : Int) + 1) = ((i + 1 : Nat) : Int) := J0s (by omega) (by omega)
  simp only [evC, seval, ↓evP, Nat.zero_add, t2, t3, t5, t6, J0B, J0S, gA1, x2, lenM2, c1, build57_l, hix, hst, w2]
  exact ⟨hlt, by omega, n1, f1, fun j hj => by rw [J05 (by omega) (Ne.symm hj)]; exact o1 j hj, CS', J0b rfl (by omega), by omega⟩
 have c1 : decide ((i : Int) < (s.queues.length : Int)) = false := by simp; omega
 simp only [evC, seval, ↓evP, Nat.zero_add, t2, t3, t5, t6, J0B, J0S, gA1, x2, lenM2, c1]
 clear hi hil hlt c1 gC lC
 have L3 := L3.mono (o1 (o 3) (by omega))
 rw [← gA1] at x3
 refine WK.loop (fun i s' => s'.T.get 2 = .pointer (some ⟨h.next, 0, none⟩) ∧ s'.T.get 3 = .pointer (some ⟨h.next + 1, 0, none⟩) ∧ s'.T.get 5 = .bool true ∧ s'.T.get 7 = iv i ∧ i ≤ s.vars.length ∧ s'.h.next = G1.next ∧ s'.h.floor = G1.floor ∧ (∀ i, i ≠ o 3 → s'.h.get i = G1.get i) ∧ ∃ CS, s'.h.get (o 3) = .row CS 9 false false ∧ CS.length = (s.vars.length + 3) * 1) s.vars.length (by omega) ?_ ?_
 ·exact ⟨by simp only [evC, ↓reduceIte, Nat.reduceEqDiff, reduceCtorEq, ↓evP, rpC, Nat.reduceAdd, Nat.reduceLT, t2, t3, t5], by simp only [evC, ↓reduceIte, Nat.reduceEqDiff, reduceCtorEq, ↓evP, rpC, Nat.reduceAdd, Nat.reduceLT, t2, t3, t5], by simp only [evC, ↓reduceIte, Nat.reduceEqDiff, reduceCtorEq, ↓evP, rpC, Nat.reduceAdd, Nat.reduceLT, t2, t3, t5], by simp only [evC, ↓reduceIte, Nat.reduceEqDiff, reduceCtorEq, ↓evP, rpC, Nat.reduceAdd, Nat.reduceLT]; rfl, by omega, rfl, rfl, fun _ _ => rfl, _, L3.g, L3.size⟩
 rintro i ⟨T2, G2⟩ hi ⟨t2, t3, t5, t7, hil, n2, f2, o2, CS, gC, lC⟩
 simp only at t2 t3 t5 t7 n2 f2 o2 gC
 have gA2 : G2.get h.next = G1.get h.next := o2 _ (by omega)
 by_cases hlt : i < s.vars.length
 ·have c1 : decide ((i : Int) < (s.vars.length : Int)) = true := by simp; omega
  have hix := idx0 (id := o 3) (n := s.vars.length) (c := s.vars.length + 3) (i := i) Tryd.underlying27 sz9 hlt
  obtain ⟨CS', hst, hl'⟩ := st_any (off := i * 1) (v := .string J9F) sz9 rfl rfl gC (by omega) (by omega)
  have w2 : IntKind.i64.wrap ((i : Int) + 1) = ((i + 1 : Nat) : Int) := J0s (by omega) (by omega)
  simp only [evC, seval, ↓evP, Nat.zero_add, t2, t3, t5, t7, J1A, J0Y, gA2, x3, lenM3, c1, hix, hst, w2]
  exact ⟨hlt, by omega, n2, f2, fun j hj => by rw [J05 (by omega) (Ne.symm hj)]; exact o2 j hj, CS', J0b rfl (by omega), by omega⟩
 have c1 : decide ((i : Int) < (s.vars.length : Int)) = false := by simp; omega
 simp only [evC, seval, ↓evP, Nat.zero_add, t2, t3, t5, t7, J1A, J0Y, gA2, x3, lenM3, c1]
 clear hi hil hlt c1 gC lC
 have L4 := L4.mono ((o2 (o 4) (by omega)).trans (o1 (o 4) (by omega)))
 rw [← gA1, ← gA2] at x4
 refine WK.loop (fun i s' => s'.T.get 2 = .pointer (some ⟨h.next, 0, none⟩) ∧ s'.T.get 3 = .pointer (some ⟨h.next + 1, 0, none⟩) ∧ s'.T.get 5 = .bool true ∧ s'.T.get 8 = iv i ∧ i ≤ s.tags.length ∧ s'.h.next = G2.next ∧ s'.h.floor = G2.floor ∧ (∀ i, i ≠ o 4 → s'.h.get i = G2.get i) ∧ ∃ CS, s'.h.get (o 4) = .row CS 9 false false ∧ CS.length = (s.tags.length + 3) * 1) s.tags.length (by omega) ?_ ?_
 ·exact ⟨by simp only [evC, ↓reduceIte, Nat.reduceEqDiff, reduceCtorEq, ↓evP, rpC, Nat.reduceAdd, Nat.reduceLT, t2, t3, t5], by simp only [evC, ↓reduceIte, Nat.reduceEqDiff, reduceCtorEq, ↓evP, rpC, Nat.reduceAdd, Nat.reduceLT, t2, t3, t5], by simp only [evC, ↓reduceIte, Nat.reduceEqDiff, reduceCtorEq, ↓evP, rpC, Nat.reduceAdd, Nat.reduceLT, t2, t3, t5], by simp only [evC, ↓reduceIte, Nat.reduceEqDiff, reduceCtorEq, ↓evP, rpC, Nat.reduceAdd, Nat.reduceLT]; rfl, by omega, rfl, rfl, fun _ _ => rfl, _, L4.g, L4.size⟩
 rintro i ⟨T3, G3⟩ hi ⟨t2, t3, t5, t8, hil, n3, f3, o3, CS, gC, lC⟩
 simp only at t2 t3 t5 t8 n3 f3 o3 gC
 have gA3 : G3.get h.next = G2.get h.next := o3 _ (by omega)
 by_cases hlt : i < s.tags.length
 ·have c1 : decide ((i : Int) < (s.tags.length : Int)) = true := by simp; omega
  have hix := idx0 (id := o 4) (n := s.tags.length) (c := s.tags.length + 3) (i := i) Tryd.underlying27 sz9 hlt
  obtain ⟨CS', hst, hl'⟩ := st_any (off := i * 1) (v := .string J9F) sz9 rfl rfl gC (by omega) (by omega)
  have w2 : IntKind.i64.wrap ((i : Int) + 1) = ((i + 1 : Nat) : Int) := J0s (by omega) (by omega)
  simp only [evC, seval, ↓evP, Nat.zero_add, t2, t3, t5, t8, J1B, J0Y, gA3, x4, lenM4, c1, hix, hst, w2]
  exact ⟨hlt, by omega, n3, f3, fun j hj => by rw [J05 (by omega) (Ne.symm hj)]; exact o3 j hj, CS', J0b rfl (by omega), by omega⟩
 have c1 : decide ((i : Int) < (s.tags.length : Int)) = false := by simp; omega
 simp only [evC, seval, ↓evP, Nat.zero_add, t2, t3, t5, t8, J1B, J0Y, gA3, x4, lenM4, c1]
 clear hi hil hlt c1 gC lC
 have oz : ∀ i, i ≠ o 2 → i ≠ o 3 → i ≠ o 4 → G3.get i = G.get i := fun i e1 e2 e3 => by rw [o3 i e3, o2 i e2, o1 i e1]
 have z0 : ∀ i, i < h0.next → G3.get i = h0.get i := fun i hi => by rw [oz i (by omega) (by omega) (by omega), gO i (by omega), h0g i hi]
 have gAz : G3.get h.next = G.get h.next := oz _ (by omega) (by omega) (by omega)
 have gBz : G3.get (h.next + 1) = G.get (h.next + 1) := oz _ (by omega) (by omega) (by omega)
 have L1z : LentAt G3 (o 1) s.rows L := ⟨by rw [oz _ (by omega) (by omega) (by omega)]; exact L1.g, L1.len, L1.own, L1.marks⟩
 have hvz : J0l G3 vr s.rows := p1.1.mono (by omega) z0
 obtain ⟨h4, hk4, n4, f4, o4⟩ := JhR (n := n) L1z (by omega) (by omega) hvz hl (by omega)
 simp only [evC, seval, ↓evP, Nat.zero_add, t2, t3, t5, J0y, J0F, gAz, gBz, x1, y1, hk4]
 have gA4 : h4.get h.next = G.get h.next := (o4 _ (by omega)).trans gAz
 have gB4 : h4.get (h.next + 1) = G.get (h.next + 1) := (o4 _ (by omega)).trans gBz
 have L5z := L5.mono ((o4 (o 5) (by omega)).trans (oz (o 5) (by omega) (by omega) (by omega)))
 have p5z : J1S lo h4 vu s.rules := J1S.mono p5 (by omega) fun i _ hi => (o4 i (by omega)).trans (z0 i hi)
 obtain ⟨h5, hk5, n5, f5, o5⟩ := k_keptInts (n := n) L5z (by omega) (by omega) p5z hl2.1 (by omega)
 simp only [evC, seval, ↓evP, Nat.zero_add, t2, t3, t5, J36, J0n, gA4, gB4, x5, y5, hk5]
 have gA5 : h5.get h.next = G.get h.next := (o5 _ (by omega)).trans gA4
 have gB5 : h5.get (h.next + 1) = G.get (h.next + 1) := (o5 _ (by omega)).trans gB4
 have L6z := L6.mono ((o5 (o 6) (by omega)).trans ((o4 (o 6) (by omega)).trans (oz (o 6) (by omega) (by omega) (by omega))))
 have p6z : J1S lo h5 vo s.on := J1S.mono p6 (by omega) fun i _ hi => (o5 i (by omega)).trans ((o4 i (by omega)).trans (z0 i hi))
 obtain ⟨h6, hk6, n6, f6, o6⟩ := k_keptInts (n := n) L6z (by omega) (by omega) p6z hl2.2 (by omega)
 simp only [evC, seval, ↓evP, Nat.zero_add, hr, t2, t3, t5, J1T, J0n, gA5, gB5, x6, y6, hk6]
 exact ⟨by omega, by omega, fun i hi => by rw [o6 i (by omega), o5 i (by omega), o4 i (by omega), oz i (by omega) (by omega) (by omega), gO i (by omega)]⟩
theorem k_kept7 {nm : ByteArray} {s : StN} {pv v : Value} {lo b : Nat} {o : Nat → Nat} {h0 : SHeap} (hL : LentPol h b v nm s o) (hp : J3x lo h0 pv nm s) (hb : h0.next ≤ b) (h0g : ∀ i, i < h0.next → h.get i = h0.get i) (hf : h.floor ≤ b) (hs : JdC s) (hl : s.rows.length < 900000000) (hl2 : s.rules.length < 900000000 ∧ s.on.length < 900000000) (hn : Jbg s + 90 < n) :
  ∃ h', J0T n 23 [v, pv] h = some (.bool true, h') ∧ (h.next ≤ h'.next ∧ h'.floor = h.floor ∧ ∀ i, i < b → h'.get i = h.get i) := by
 obtain ⟨n, rfl⟩ : ∃ j, n = j + 1 := ⟨n - 1, by omega⟩
 exact k_wr (J13 ⟨rfl, rfl, rfl⟩) (kept7_walk hL hp hb h0g hf hs hl hl2 (by omega) (by omega))
end
theorem bs22 {h : SHeap} {x : RowN} : J0Q Tryd.prog h 22 1 [(0, rowV x)] = some (.slice (some ⟨h.next, 0, none⟩) 1 1, h.push (.row (J0e x) 46 false false)) := by
 simp [J0Q, Tryd.underlying22, sz46, J40, flat, J1i, J0G, J5k, J3e, Go.Sx.lay]
 rfl
theorem own_row {h : SHeap} {lo : Nat} {v : Value} {l : List RowN} {x : RowN} (hs : SlAt h lo (fun _ => 1) 1 v l.length (l.flatMap J0e) 46) (hlo : lo ≤ h.next) (hf : h.floor ≤ lo) (hb : l.length < 10000000) :
  ∃ v' h', J1o Tryd.prog (h.push (.row (J0e x) 46 false false)) 22 v (.slice (some ⟨h.next, 0, none⟩) 1 1) = some (v', h') ∧ SlAt h' lo (fun _ => 1) 1 v' (l ++ [x]).length ((l ++ [x]).flatMap J0e) 46 ∧ h'.floor = h.floor ∧ h.next ≤ h'.next ∧ ∀ i, i < lo → h'.get i = h.get i := by
 have hs' : SlAt (h.push (.row (J0e x) 46 false false)) lo (fun i => if i = h.next then 0 else 1) 1 v l.length (l.flatMap J0e) 46 := hs.mono (by show h.next ≤ h.next + 1; omega) (fun i hi => if_neg (by omega)) fun i _ hi _ => J06 hi
 obtain ⟨v', h1, a1, a2, a3, a4, a5, a6, a7⟩ := J3B (et := 46) (w := 5) (c := 1) (sc := 1) (xs := J0e x) Tryd.underlying22 sz46 by46 J40 rfl (by decide) (by decide) hs' (J0N l) (J4y l) rfl rfl (by decide) (by decide) hb (src := h.next) J0h (by show h.next < h.next + 1; omega) hf (by simp)
 have hnx : h1.next = h.next + 2 := a4
 refine ⟨v', h1, a1, ?_, a3, by omega, fun i hi => ?_⟩
 ·rcases a2 with a2 | a2
  ·rcases a2 with ⟨h2, _⟩ | ⟨id, ex, b1, b2, b3, b4, b5⟩
   ·omega
   ·refine .inr ⟨id, ex, ?_, ?_, b3, b4, rfl⟩
    ·rw [b1, List.length_append]; rfl
    ·rw [b2, List.flatMap_append, List.flatMap_cons, List.flatMap_nil, List.append_nil]
  ·exact absurd (show lo ≤ h.next + 1 by omega) a2
 ·rw [a7 i (by show i < h.next + 1; omega) (by omega), J06 (by omega)]
section
variable {call : J0r} {n N : Nat} {h : SHeap}
set_option maxHeartbeats 8000000 in
theorem plain_walk {l : List RowN} {v : Value} (hv : J0l h v l) (hl : l.length < 9000000) (hfl : h.floor ≤ h.next) (hN : l.length + 5 < N) :
  ∃ v' h', J0L Tryd.prog call N 71 [v] h = some (v', h') ∧ J0p h.next h' v' (zeroN l).length 5 ((zeroN l).flatMap J0e) ∧ h'.floor = h.floor ∧ h.next ≤ h'.next ∧ ∀ i, i < h.next → h'.get i = h.get i := by
 refine J65 (R := fun v' h' => J0p h.next h' v' (zeroN l).length 5 ((zeroN l).flatMap J0e) ∧ h'.floor = h.floor ∧ h.next ≤ h'.next ∧ ∀ i, i < h.next → h'.get i = h.get i) Tryd.func71 rfl (by simp [Tryd.f71]) ?_
 have hr : Tryd.f71.results.toList = [.tmp 2] := rfl
 simp only [evC, seval, ↓evP]
 refine WK.loop (fun i s' => s'.T.get 0 = v ∧ s'.T.get 4 = iv i ∧ i ≤ l.length ∧ h.next ≤ s'.h.next ∧ s'.h.floor = h.floor ∧ (∀ i, i < h.next → s'.h.get i = h.get i) ∧ ∃ u, s'.T.get 3 = u ∧ SlAt s'.h h.next (fun _ => 1) 1 u (zeroN (l.take i)).length ((zeroN (l.take i)).flatMap J0e) 46) l.length (by omega) ?_ ?_
 ·exact ⟨by simp only [evC, ↓reduceIte, Nat.reduceEqDiff, reduceCtorEq, ↓evP, rpC, Nat.reduceAdd, Nat.reduceLT], by simp only [evC, ↓reduceIte, Nat.reduceEqDiff, reduceCtorEq, ↓evP, rpC, Nat.reduceAdd, Nat.reduceLT]; rfl, by omega, Nat.le_refl _, rfl, fun _ _ => rfl, _, by simp only [evC, ↓reduceIte, Nat.reduceEqDiff, reduceCtorEq, ↓evP, rpC, Nat.reduceAdd, Nat.reduceLT], J5j⟩
 rintro i ⟨T1, H1⟩ hi ⟨t0, t4, hil, n1, f1, o1, u, t3, hS⟩
 simp only at t0 t4 n1 f1 o1 t3 hS
 have hv1 : J0l H1 v l := hv.mono n1 o1
 have hlen := fun h' => hv1.len (h' := h')
 by_cases hlt : i < l.length
 ·have c1 : decide ((i : Int) < (l.length : Int)) = true := by simp; omega
  obtain ⟨x, hx⟩ : ∃ x, l[i]? = some x := ⟨_, List.getElem?_eq_getElem hlt⟩
  obtain ⟨rid, p, e0, hid, l0, l1, l2, l3, l4, lr⟩ := hv1.row hx
  have hz : flat (.agg #[.int .i64 0, .string ByteArray.empty, .int .i64 0, .int .i64 0, .int .i64 0]) = true := rfl
  have hzc : (Value.agg #[.int .i64 0, .string ByteArray.empty, .int .i64 0, .int .i64 0, .int .i64 0]).cells.toList = [.int .i64 0, .string ByteArray.empty, .int .i64 0, .int .i64 0, .int .i64 0] := rfl
  have hst : J0K Tryd.prog (H1.push (.row [.int .i64 0, .string ByteArray.empty, .int .i64 0, .int .i64 0, .int .i64 0] 46 false false)) 46 (.pointer (some ⟨H1.next, 0, none⟩)) (.agg #[.int .i64 x.kind, .string x.name, .int .i64 x.ends, .int .i64 x.n, .int .i64 x.kids]) = some ((H1.push (.row [.int .i64 0, .string ByteArray.empty, .int .i64 0, .int .i64 0, .int .i64 0] 46 false false)).put H1.next (.row (J0e x) 46 false false)) := Jaf (by omega)
  have gN : ((H1.push (.row [.int .i64 0, .string ByteArray.empty, .int .i64 0, .int .i64 0, .int .i64 0] 46 false false)).put H1.next (.row (J0e x) 46 false false)).get H1.next = .row (J0e x) 46 false false := J0b rfl (by show H1.next < H1.next + 1; omega)
  have gO : ∀ i, i < H1.next → ((H1.push (.row [.int .i64 0, .string ByteArray.empty, .int .i64 0, .int .i64 0, .int .i64 0] 46 false false)).put H1.next (.row (J0e x) 46 false false)).get i = H1.get i := fun i hi => by rw [J05 (by show H1.next < H1.next + 1; omega) (by omega), J06 hi]
  have nG : ((H1.push (.row [.int .i64 0, .string ByteArray.empty, .int .i64 0, .int .i64 0, .int .i64 0] 46 false false)).put H1.next (.row (J0e x) 46 false false)).next = H1.next + 1 := rfl
  have fG : ((H1.push (.row [.int .i64 0, .string ByteArray.empty, .int .i64 0, .int .i64 0, .int .i64 0] 46 false false)).put H1.next (.row (J0e x) 46 false false)).floor = H1.floor := rfl
  generalize (H1.push (.row [.int .i64 0, .string ByteArray.empty, .int .i64 0, .int .i64 0, .int .i64 0] 46 false false)).put H1.next (.row (J0e x) 46 false false) = G at *
  have w1 : IntKind.i64.wrap ((i : Int) + 1) = ((i + 1 : Nat) : Int) := J0s (by omega) (by omega)
  have lk : ld1 0 (G.get H1.next) = some (iv x.kind) := by rw [gN]; rfl
  have htk : zeroN (l.take (i + 1)) = zeroN (l.take i) ++ [zero1 x] := by
   rw [List.take_add_one, hx, zeroN, zeroN, List.map_append]
   rfl
  have hlt2 : (zeroN (l.take i)).length < 10000000 := by
   rw [zeroN, List.length_map, List.length_take]
   omega
  cases d : (x.kind != 27) with
  | false =>
   have hz1 : zero1 x = x := by unfold zero1; rw [if_neg (by simpa using d)]
   have lw : ldN 5 0 (G.get H1.next) = some (rowV x) := by rw [gN]; rfl
   have hSG : SlAt G h.next (fun _ => 1) 1 u (zeroN (l.take i)).length ((zeroN (l.take i)).flatMap J0e) 46 := hS.mono (by omega) (fun _ _ => rfl) fun i _ hi _ => gO i hi
   obtain ⟨v', H2, ha, hS2, f2, n2, o2⟩ := own_row (x := x) hSG (by omega) (by omega) hlt2
   simp only [evC, seval, ↓evP, t0, t3, t4, hlen, c1, e0, J0u, lr, J40, hz, hzc, hst, J0t, J0m, lk, d, lw, bs22, ha, w1]
   refine ⟨hlt, by omega, by omega, by omega, fun i hi => by rw [o2 i hi, gO i (by omega), o1 i hi], ?_⟩
   rw [htk, hz1]
   exact hS2
  | true =>
   have hz1 : zero1 x = { x with n := 0 } := by unfold zero1; rw [if_pos (by simpa using d)]
   have hs3 := stc (t := 3) (off := 3) (v := iv 0) sz3 rfl rfl gN (by show 3 < 5; omega) (by omega)
   have gN2 : (G.put H1.next (.row ((J0e x).set 3 (iv 0)) 46 false false)).get H1.next = .row (J0e { x with n := 0 }) 46 false false := J0b rfl (by omega)
   have gO2 : ∀ i, i < H1.next → (G.put H1.next (.row ((J0e x).set 3 (iv 0)) 46 false false)).get i = H1.get i := fun i hi => by rw [J05 (by omega) (by omega), gO i hi]
   have nG2 : (G.put H1.next (.row ((J0e x).set 3 (iv 0)) 46 false false)).next = H1.next + 1 := nG
   have fG2 : (G.put H1.next (.row ((J0e x).set 3 (iv 0)) 46 false false)).floor = H1.floor := fG
   generalize G.put H1.next (.row ((J0e x).set 3 (iv 0)) 46 false false) = G2 at *
   have lw : ldN 5 0 (G2.get H1.next) = some (rowV { x with n := 0 }) := by rw [gN2]; rfl
   have hSG : SlAt G2 h.next (fun _ => 1) 1 u (zeroN (l.take i)).length ((zeroN (l.take i)).flatMap J0e) 46 := hS.mono (by omega) (fun _ _ => rfl) fun i _ hi _ => gO2 i hi
   obtain ⟨v', H2, ha, hS2, f2, n2, o2⟩ := own_row (x := { x with n := 0 }) hSG (by omega) (by omega) hlt2
   simp only [evC, seval, ↓evP, Nat.zero_add, t0, t3, t4, hlen, c1, e0, J0u, lr, J40, hz, hzc, hst, J0t, J0O, J0m, lk, d, hs3, lw, bs22, ha, w1]
   refine ⟨hlt, by omega, by omega, by omega, fun i hi => by rw [o2 i hi, gO2 i (by omega), o1 i hi], ?_⟩
   rw [htk, hz1]
   exact hS2
 have c1 : decide ((i : Int) < (l.length : Int)) = false := by simp; omega
 have : i = l.length := by omega
 subst this
 rw [List.take_length] at hS
 simp only [evC, seval, ↓evP, hr, t0, t3, t4, hlen, c1]
 exact ⟨hS.cells (J0N _), f1, n1, o1⟩
theorem k_plain {l : List RowN} {v : Value} (hv : J0l h v l) (hl : l.length < 9000000) (hfl : h.floor ≤ h.next) (hn : l.length + 10 < n) :
  ∃ v' h', J0T n 71 [v] h = some (v', h') ∧ J0l h' v' (zeroN l) ∧ h'.floor = h.floor ∧ h.next ≤ h'.next ∧ ∀ i, i < h.next → h'.get i = h.get i := by
 obtain ⟨n, rfl⟩ : ∃ j, n = j + 1 := ⟨n - 1, by omega⟩
 have hex := k_ex (n := n) (R := fun v' h' => J0p h.next h' v' (zeroN l).length 5 ((zeroN l).flatMap J0e) ∧ h'.floor = h.floor ∧ h.next ≤ h'.next ∧ ∀ i, i < h.next → h'.get i = h.get i) (J13 (f := 71) (args := [v]) (h := h) ⟨rfl, rfl, rfl⟩) (plain_walk (call := J0T n) (N := n) hv hl hfl (by omega)) fun v' h1 hf _ ⟨hc, _⟩ => ⟨hc.flat ?_ _ _, rfl, Nat.le_refl _, fun _ _ => rfl⟩
 ·obtain ⟨v', h', e, hc, a⟩ := hex
  exact ⟨v', h', e, (J3P.of hc).1, a⟩
 ·obtain ⟨_, a, c, rfl, _⟩ := hc
  exact hf
set_option maxHeartbeats 8000000 in
theorem chkD_walk {nm : ByteArray} {s : StN} {pv : Value} {lo : Nat} (hp : J3x lo h pv nm s) (h64 : ∀ x ∈ s.rows, x.kids ≤ 9223372036854775807) (hs : JdC s) (hl : s.rows.length < 9000000) (hfl : h.floor ≤ h.next) (hn : Jbg s + 100200 < n) :
  ∃ h', J0L Tryd.prog (J0T n) N 24 [pv] h = some (iv (chkPol nm s), h') ∧ ∀ i, i < h.next → h'.get i = h.get i := by
 obtain ⟨vr, vq, vv, vt, vu, vo, rfl, p1, p2, p3, p4, p5, p6⟩ := hp
 refine J1N (R := fun h' => ∀ i, i < h.next → h'.get i = h.get i) Tryd.func24 rfl (by simp [Tryd.f24]) ?_
 have hr : Tryd.f24.results.toList = [.tmp 2] := rfl
 have htot : Jbg s = s.rows.length + s.queues.length + s.vars.length + s.tags.length + s.rules.length + s.on.length := rfl
 have ca : (Value.agg #[.string nm, vr, vq, vv, vt, vu, vo, iv s.miss]).cells.toList = [.string nm, vr, vq, vv, vt, vu, vo, iv s.miss] := rfl
 have oa := all8 (nm := nm) p1 p2 p3 p4 p5 p6
 have gA : (h.push (.row [.string nm, vr, vq, vv, vt, vu, vo, iv s.miss] 30 false false)).get h.next = .row [.string nm, vr, vq, vv, vt, vu, vo, iv s.miss] 30 false false := J0h
 have gO : ∀ i, i < h.next → (h.push (.row [.string nm, vr, vq, vv, vt, vu, vo, iv s.miss] 30 false false)).get i = h.get i := fun i hi => J06 hi
 have nA : (h.push (.row [.string nm, vr, vq, vv, vt, vu, vo, iv s.miss] 30 false false)).next = h.next + 1 := rfl
 have fA : (h.push (.row [.string nm, vr, vq, vv, vt, vu, vo, iv s.miss] 30 false false)).floor = h.floor := rfl
 show WK _ _ _ (.seq _ (.seq _ (.seq _ _))) _ _
 simp only [evC, seval, ↓evP, rpD, J0X, J2t, ca, oa, sz30]
 generalize h.push (.row [.string nm, vr, vq, vv, vt, vu, vo, iv s.miss] 30 false false) = A at *
 have l1 : ld1 1 (A.get h.next) = some vr := by rw [gA]; rfl
 have P1 : J0l A vr s.rows := p1.1.mono (by omega) gO
 obtain ⟨v', h1, hpl, hvz, f1, n1, o1⟩ := k_plain (n := n) P1 hl (by omega) (by omega)
 have hzl : (zeroN s.rows).length = s.rows.length := by rw [zeroN, List.length_map]
 have hz64 : ∀ x ∈ zeroN s.rows, x.kids ≤ 9223372036854775807 := fun x hx => by
  obtain ⟨y, hy, rfl⟩ := List.mem_map.1 hx
  have := h64 y hy
  unfold zero1
  split <;> exact this
 obtain ⟨v2, h2, hres, pv, rfl, hp', f2, n2, o2⟩ := Jij (n := n) (h := h1) (by omega) hvz (by omega) hz64 (by omega)
 obtain ⟨vr', vq', vv', vt', vu', vo', rfl, b1, b2, b3, b4, b5, b6⟩ := hp'
 obtain ⟨⟨hb, h3⟩, s1, s2, rO, n3, f3, o3⟩ := laid_out (H := h2) (cs := [.string (outN (zeroN s.rows)).1, vr', vq', vv', vt', vu', vo', iv (outN (zeroN s.rows)).2.miss]) (e := (resN (zeroN s.rows)).1.1) (p := (resN (zeroN s.rows)).1.2) rfl (all8 b1 b2 b3 b4 b5 b6) (by omega)
 simp only at s1 s2 rO n3 f3 o3
 have zc30 : zPol.cells.toList = [.string ByteArray.empty, .slice none 0 0, .slice none 0 0, .slice none 0 0, .slice none 0 0, .slice none 0 0, .slice none 0 0, iv 0] := rfl
 have zc33 : (J2k 0 0).cells.toList = [iv 0, iv 0] := rfl
 have HO : ∀ i, i < h.next → h3.get i = h.get i := fun i hi => by rw [o3 i (by omega), o2 i (by omega), o1 i (by omega), gO i hi]
 have HA : h3.get h.next = .row [.string nm, vr, vq, vv, vt, vu, vo, iv s.miss] 30 false false := by rw [o3 _ (by omega), o2 _ (by omega), o1 _ (by omega)]; exact gA
 have LA : ldN 8 0 (h3.get h.next) = some (.agg #[.string nm, vr, vq, vv, vt, vu, vo, iv s.miss]) := by rw [HA]; rfl
 have LB : ldN 8 0 (h3.get h2.next) = some (.agg #[.string (outN (zeroN s.rows)).1, vr', vq', vv', vt', vu', vo', iv (outN (zeroN s.rows)).2.miss]) := by rw [rO.1]; rfl
 have lF : ld1 0 (h3.get (h2.next + 1)) = some (iv (resN (zeroN s.rows)).1.1) := by rw [rO.2]; rfl
 have NN : h.next ≤ h3.next := by omega
 have hpA : J3x lo h3 (.agg #[.string nm, vr, vq, vv, vt, vu, vo, iv s.miss]) nm s := ⟨vr, vq, vv, vt, vu, vo, rfl, p1.mono NN fun i _ hi => HO i hi, p2.mono NN fun i _ hi => HO i hi, p3.mono NN fun i _ hi => HO i hi, p4.mono NN fun i _ hi => HO i hi, J1S.mono p5 NN fun i _ hi => HO i hi, J1S.mono p6 NN fun i _ hi => HO i hi⟩
 have hpB : J3x h1.next h3 (.agg #[.string (outN (zeroN s.rows)).1, vr', vq', vv', vt', vu', vo', iv (outN (zeroN s.rows)).2.miss]) (outN (zeroN s.rows)).1 (outN (zeroN s.rows)).2 :=
  J3x.mono ⟨vr', vq', vv', vt', vu', vo', rfl, b1, b2, b3, b4, b5, b6⟩ (by omega) fun i _ hi => o3 i hi
 obtain ⟨b, hsame, hb'⟩ := JgK (n := n) (h := h3) hpA hpB hs (by omega)
 simp only [evC, seval, ↓evP, Nat.zero_add, J0y, J0F, l1, hpl, hres, J5F, J3Y, zc30, J3C, J1t, zc33, J1D, s1, s2]
 cases d0 : ((resN (zeroN s.rows)).1.1 != 0) with
 | true =>
  rw [show chkPol nm s = 23 from if_neg fun h9 => absurd h9.1 (by simpa using d0)]
  simp only [evC, seval, ↓evP, hr, J6a, J7G, lF, d0]
  exact HO
 | false =>
  cases b with
  | true =>
   rw [show chkPol nm s = 0 from if_pos ⟨by simpa using d0, hb'.1 rfl⟩]
   simp only [evC, seval, ↓evP, hr, J6a, J7G, lF, d0, J1b, LA, LB, hsame]
   exact HO
  | false =>
   rw [show chkPol nm s = 23 from if_neg fun h9 => by have := hb'.2 h9.2; cases this]
   simp only [evC, seval, ↓evP, hr, J6a, J7G, lF, d0, J1b, LA, LB, hsame]
   exact HO
theorem k_chkD {nm : ByteArray} {s : StN} {pv : Value} {lo : Nat} (hp : J3x lo h pv nm s) (h64 : ∀ x ∈ s.rows, x.kids ≤ 9223372036854775807) (hs : JdC s) (hl : s.rows.length < 9000000) (hfl : h.floor ≤ h.next) (hn : Jbg s + 100300 < n) :
  J0T n 24 [pv] h = some (iv (chkPol nm s), h) := by
 obtain ⟨n, rfl⟩ : ∃ j, n = j + 1 := ⟨n - 1, by omega⟩
 exact J4r (J13 ⟨rfl, rfl, rfl⟩) rfl (chkD_walk (N := n) hp h64 hs hl hfl (by omega))
end
theorem LentPol.pol {h : SHeap} {b : Nat} {v : Value} {nm : ByteArray} {s : StN} {o : Nat → Nat} (hL : LentPol h b v nm s o) : J3x 0 h v nm s := by
 obtain ⟨rfl, ⟨u1, u2, u3, u4, u5, u6, u7⟩, ⟨L, L1⟩, L2, L3, L4, L5, L6⟩ := hL
 exact ⟨_, _, _, _, _, _, rfl, J0l.cells (lent_rows L1 (by omega)), L2.cells ⟨Nat.zero_le _, by omega⟩, L3.cells ⟨Nat.zero_le _, by omega⟩, L4.cells ⟨Nat.zero_le _, by omega⟩, L5.cells ⟨Nat.zero_le _, by omega⟩, L6.cells ⟨Nat.zero_le _, by omega⟩⟩
theorem LentPol.mono {h h' : SHeap} {b : Nat} {v : Value} {nm : ByteArray} {s : StN} {o : Nat → Nat} (hL : LentPol h b v nm s o) (hn : h.next ≤ h'.next) (hg : ∀ i, i < h.next → h'.get i = h.get i) : LentPol h' b v nm s o := by
 obtain ⟨hv, ⟨u1, u2, u3, u4, u5, u6, u7⟩, ⟨L, L1⟩, L2, L3, L4, L5, L6⟩ := hL
 exact ⟨hv, ⟨u1, u2, u3, u4, u5, u6, by omega⟩, ⟨L, by rw [hg _ (by omega)]; exact L1.g, L1.len, L1.own, L1.marks⟩, L2.mono (hg _ (by omega)), L3.mono (hg _ (by omega)), L4.mono (hg _ (by omega)), L5.mono (hg _ (by omega)), L6.mono (hg _ (by omega))⟩
theorem LentPol.lies {h : SHeap} {b : Nat} {v : Value} {nm : ByteArray} {s : StN} {o : Nat → Nat} (hL : LentPol h b v nm s o) : ∀ nm' vr vq vv vt vu vo m, v = .agg #[.string nm', vr, vq, vv, vt, vu, vo, m] → Lies vr s.rows.length := by
 intro nm' vr vq vv vt vu vo m hv
 rw [hL.v] at hv
 simp only [Value.agg.injEq, Array.mk.injEq, List.cons.injEq] at hv
 obtain ⟨_, h1, _⟩ := hv
 subst h1
 exact ⟨_, _, _, rfl⟩
section
variable {n N : Nat} {h : SHeap}
set_option maxHeartbeats 8000000 in
theorem far7_walk {nm : ByteArray} {s : StN} {pv : Value} {lo : Nat} (hp : J3x lo h pv nm s) (hn : 0 < n) :
  ∃ v' h', J0L Tryd.prog (J0T n) N 20 [pv] h = some (v', h') ∧ (∃ b, v' = .bool b ∧ (b = false → s.rows.length ≤ 65536 ∧ s.queues.length ≤ 100 ∧ s.vars.length ≤ 100 ∧ s.tags.length ≤ 100 ∧ s.rules.length ≤ 100 ∧ s.on.length ≤ 100)) ∧ ∀ i, i < h.next → h'.get i = h.get i := by
 obtain ⟨vr, vq, vv, vt, vu, vo, rfl, p1, p2, p3, p4, p5, p6⟩ := hp
 refine J65 (R := fun v' h' => (∃ b, v' = .bool b ∧ (b = false → s.rows.length ≤ 65536 ∧ s.queues.length ≤ 100 ∧ s.vars.length ≤ 100 ∧ s.tags.length ≤ 100 ∧ s.rules.length ≤ 100 ∧ s.on.length ≤ 100)) ∧ ∀ i, i < h.next → h'.get i = h.get i) Tryd.func20 rfl (by simp [Tryd.f20]) ?_
 have hr : Tryd.f20.results.toList = [.tmp 2] := rfl
 have ca : (Value.agg #[.string nm, vr, vq, vv, vt, vu, vo, iv s.miss]).cells.toList = [.string nm, vr, vq, vv, vt, vu, vo, iv s.miss] := rfl
 have oa := all8 (nm := nm) p1 p2 p3 p4 p5 p6
 obtain ⟨x0, x1, x2, x3, x4, x5, x6, x7⟩ := Jhw (a := .string nm) (b := vr) (c := vq) (d := vv) (e := vt) (f := vu) (g := vo) (i := iv s.miss) (ty := 30) (x := false) (y := false)
 have gA : (h.push (.row [.string nm, vr, vq, vv, vt, vu, vo, iv s.miss] 30 false false)).get h.next = .row [.string nm, vr, vq, vv, vt, vu, vo, iv s.miss] 30 false false := J0h
 have gO : ∀ i, i < h.next → (h.push (.row [.string nm, vr, vq, vv, vt, vu, vo, iv s.miss] 30 false false)).get i = h.get i := fun i hi => J06 hi
 have nA : (h.push (.row [.string nm, vr, vq, vv, vt, vu, vo, iv s.miss] 30 false false)).next = h.next + 1 := rfl
 have len2 := JfC p2
 have len3 := JfT p3
 have len4 := JfT p4
 have len5 := JfF p5
 have len6 := JfF p6
 simp only [evC, seval, ↓evP, rpD, J0X, J2t, ca, oa, sz30]
 generalize h.push (.row [.string nm, vr, vq, vv, vt, vu, vo, iv s.miss] 30 false false) = A at *
 rw [← gA] at x0 x1 x2 x3 x4 x5 x6 x7
 have P1 : J0l A vr s.rows := p1.1.mono (by omega) gO
 have hfar := JiW (n := n) P1 hn
 cases d0 : decide ((s.rows.length : Int) > 65536) with
 | true =>
  rw [d0] at hfar
  simp only [evC, seval, ↓evP, hr, Nat.zero_add, J0y, J0F, x1, hfar]
  exact ⟨⟨true, rfl, fun h => by cases h⟩, gO⟩
 | false =>
 rw [d0] at hfar
 have e0 := of_decide_eq_false d0
 cases d1 : decide ((s.queues.length : Int) > 100) with
 | true =>
  simp only [evC, seval, ↓evP, hr, Nat.zero_add, J0y, J0B, J0F, J0S, x1, x2, hfar, len2, d1]
  exact ⟨⟨true, rfl, fun h => by cases h⟩, gO⟩
 | false =>
 have e1 := of_decide_eq_false d1
 cases d2 : decide ((s.vars.length : Int) > 100) with
 | true =>
  simp only [evC, seval, ↓evP, hr, Nat.zero_add, J0y, J0B, J1A, J0F, J0S, J0Y, x1, x2, x3, hfar, len2, len3, d1, d2]
  exact ⟨⟨true, rfl, fun h => by cases h⟩, gO⟩
 | false =>
 have e2 := of_decide_eq_false d2
 cases d3 : decide ((s.tags.length : Int) > 100) with
 | true =>
  simp only [evC, seval, ↓evP, hr, Nat.zero_add, J0y, J0B, J1A, J1B, J0F, J0S, J0Y, x1, x2, x3, x4, hfar, len2, len3, len4, d1, d2, d3]
  exact ⟨⟨true, rfl, fun h => by cases h⟩, gO⟩
 | false =>
 have e3 := of_decide_eq_false d3
 cases d4 : decide ((s.rules.length : Int) > 100) with
 | true =>
  simp only [evC, seval, ↓evP, hr, Nat.zero_add, J0y, J0B, J1A, J1B, J36, J0F, J0S, J0Y, J0n, x1, x2, x3, x4, x5, hfar, len2, len3, len4, len5, d1, d2, d3, d4]
  exact ⟨⟨true, rfl, fun h => by cases h⟩, gO⟩
 | false =>
 have e4 := of_decide_eq_false d4
 simp only [evC, seval, ↓evP, hr, Nat.zero_add, J0y, J0B, J1A, J1B, J36, J1T, J0F, J0S, J0Y, J0n, x1, x2, x3, x4, x5, x6, hfar, len2, len3, len4, len5, len6, d1, d2, d3, d4]
 exact ⟨⟨_, rfl, fun h => by have := of_decide_eq_false h; omega⟩, gO⟩
theorem k_far7 {nm : ByteArray} {s : StN} {pv : Value} {lo : Nat} (hp : J3x lo h pv nm s) (hn : 1 < n) :
  ∃ b, J0T n 20 [pv] h = some (.bool b, h) ∧ (b = false → s.rows.length ≤ 65536 ∧ s.queues.length ≤ 100 ∧ s.vars.length ≤ 100 ∧ s.tags.length ≤ 100 ∧ s.rules.length ≤ 100 ∧ s.on.length ≤ 100) := by
 obtain ⟨n, rfl⟩ : ∃ j, n = j + 1 := ⟨n - 1, by omega⟩
 obtain ⟨v', h', e, ⟨b, rfl, hb⟩, ho⟩ := far7_walk (n := n) (N := n) hp (by omega)
 exact ⟨b, J4r (J13 ⟨rfl, rfl, rfl⟩) rfl ⟨h', e, ho⟩, hb⟩
set_option maxHeartbeats 8000000 in
theorem checks_walk {nm : ByteArray} {s : StN} {pv : Value} (hp : J3x 0 h pv nm s) (h64 : ∀ x ∈ s.rows, x.kids ≤ 9223372036854775807) (hfl : h.floor ≤ h.next) (hg : h.get 0 = J14) (hn0 : 0 < h.next) (hn : 400000 < n) :
  ∃ h', J0L Tryd.prog (Jb4 n) n 4 [pv] h = some (.bool true, h') ∧ True := by
 obtain ⟨vr, vq, vv, vt, vu, vo, rfl, p1, p2, p3, p4, p5, p6⟩ := id hp
 refine J1N (R := fun _ => True) Tryd.func4 rfl (by simp [Tryd.f4]) ?_
 have hr : Tryd.f4.results.toList = [.tmp 2] := rfl
 have ca : (Value.agg #[.string nm, vr, vq, vv, vt, vu, vo, iv s.miss]).cells.toList = [.string nm, vr, vq, vv, vt, vu, vo, iv s.miss] := rfl
 have zc30 : zPol.cells.toList = [.string ByteArray.empty, .slice none 0 0, .slice none 0 0, .slice none 0 0, .slice none 0 0, .slice none 0 0, .slice none 0 0, iv 0] := rfl
 have oa := all8 (nm := nm) p1 p2 p3 p4 p5 p6
 have gA : (h.push (.row [.string nm, vr, vq, vv, vt, vu, vo, iv s.miss] 30 false false)).get h.next = .row [.string nm, vr, vq, vv, vt, vu, vo, iv s.miss] 30 false false := J0h
 have gO : ∀ i, i < h.next → (h.push (.row [.string nm, vr, vq, vv, vt, vu, vo, iv s.miss] 30 false false)).get i = h.get i := fun i hi => J06 hi
 have nA : (h.push (.row [.string nm, vr, vq, vv, vt, vu, vo, iv s.miss] 30 false false)).next = h.next + 1 := rfl
 have fA : (h.push (.row [.string nm, vr, vq, vv, vt, vu, vo, iv s.miss] 30 false false)).floor = h.floor := rfl
 simp only [evC, seval, ↓evP, rpD, J0X, J2t, ca, oa, sz30]
 generalize h.push (.row [.string nm, vr, vq, vv, vt, vu, vo, iv s.miss] 30 false false) = A at *
 have lA : ldN 8 0 (A.get h.next) = some (.agg #[.string nm, vr, vq, vv, vt, vu, vo, iv s.miss]) := J9E gA rfl
 have hpA : J3x 0 A (.agg #[.string nm, vr, vq, vv, vt, vu, vo, iv s.miss]) nm s := hp.mono (by omega) fun i _ hi => gO i hi
 obtain ⟨b, hfar, hb⟩ := k_far7 (n := n) hpA (by omega)
 have hfar' := t_k (n := n) (by decide) hfar
 cases b with
 | true =>
  have hhd := JfG (n := n) (h := A) (by rw [gO 0 hn0]; exact hg)
  simp only [evC, seval, ↓evP, hr, J1b, lA, hfar', hhd]
 | false =>
  obtain ⟨b1, b2, b3, b4, b5, b6⟩ := hb rfl
  have hsm : JdC s := by unfold JdC; omega
  have htot : Jbg s ≤ 66036 := by unfold Jbg; omega
  obtain ⟨v1, h1, hlend, ⟨o, hL⟩, n1, f1, o1⟩ := k_lend7 (n := n) hpA hsm (by omega) (by omega) (by omega) (by omega)
  have hlend' := t_k (n := n) (by decide) hlend
  have hv1 := hL.v
  have hcv : v1.cells.toList = [.string nm, .slice (some ⟨o 1, 0, none⟩) s.rows.length (s.rows.length + 9), .slice (some ⟨o 2, 0, none⟩) s.queues.length (s.queues.length + 3), .slice (some ⟨o 3, 0, none⟩) s.vars.length (s.vars.length + 3), .slice (some ⟨o 4, 0, none⟩) s.tags.length (s.tags.length + 3), .slice (some ⟨o 5, 0, none⟩) s.rules.length (s.rules.length + 3), .slice (some ⟨o 6, 0, none⟩) s.on.length (s.on.length + 3), iv s.miss] := by rw [hv1]; rfl
  have hst := stW (t := 30) sz30 (h := h1.push (.row [.string ByteArray.empty, .slice none 0 0, .slice none 0 0, .slice none 0 0, .slice none 0 0, .slice none 0 0, .slice none 0 0, iv 0] 30 false false)) (vs := [.string nm, .slice (some ⟨o 1, 0, none⟩) s.rows.length (s.rows.length + 9), .slice (some ⟨o 2, 0, none⟩) s.queues.length (s.queues.length + 3), .slice (some ⟨o 3, 0, none⟩) s.vars.length (s.vars.length + 3), .slice (some ⟨o 4, 0, none⟩) s.tags.length (s.tags.length + 3), .slice (some ⟨o 5, 0, none⟩) s.rules.length (s.rules.length + 3), .slice (some ⟨o 6, 0, none⟩) s.on.length (s.on.length + 3), iv s.miss]) (J0h (h := h1)) rfl rfl rfl (by rw [J0i]; omega)
  rw [← hv1] at hst
  simp only [evC, seval, ↓evP, J1b, lA, hfar', hlend', J5F, J3Y, zc30, hst]
  have gM : ((h1.push (.row [.string ByteArray.empty, .slice none 0 0, .slice none 0 0, .slice none 0 0, .slice none 0 0, .slice none 0 0, .slice none 0 0, iv 0] 30 false false)).put h1.next (.row [.string nm, .slice (some ⟨o 1, 0, none⟩) s.rows.length (s.rows.length + 9), .slice (some ⟨o 2, 0, none⟩) s.queues.length (s.queues.length + 3), .slice (some ⟨o 3, 0, none⟩) s.vars.length (s.vars.length + 3), .slice (some ⟨o 4, 0, none⟩) s.tags.length (s.tags.length + 3), .slice (some ⟨o 5, 0, none⟩) s.rules.length (s.rules.length + 3), .slice (some ⟨o 6, 0, none⟩) s.on.length (s.on.length + 3), iv s.miss] 30 false false)).get h1.next = .row [.string nm, .slice (some ⟨o 1, 0, none⟩) s.rows.length (s.rows.length + 9), .slice (some ⟨o 2, 0, none⟩) s.queues.length (s.queues.length + 3), .slice (some ⟨o 3, 0, none⟩) s.vars.length (s.vars.length + 3), .slice (some ⟨o 4, 0, none⟩) s.tags.length (s.tags.length + 3), .slice (some ⟨o 5, 0, none⟩) s.rules.length (s.rules.length + 3), .slice (some ⟨o 6, 0, none⟩) s.on.length (s.on.length + 3), iv s.miss] 30 false false := J0b rfl (by rw [J1D]; omega)
  have o2 : ∀ i, i < h1.next → ((h1.push (.row [.string ByteArray.empty, .slice none 0 0, .slice none 0 0, .slice none 0 0, .slice none 0 0, .slice none 0 0, .slice none 0 0, iv 0] 30 false false)).put h1.next (.row [.string nm, .slice (some ⟨o 1, 0, none⟩) s.rows.length (s.rows.length + 9), .slice (some ⟨o 2, 0, none⟩) s.queues.length (s.queues.length + 3), .slice (some ⟨o 3, 0, none⟩) s.vars.length (s.vars.length + 3), .slice (some ⟨o 4, 0, none⟩) s.tags.length (s.tags.length + 3), .slice (some ⟨o 5, 0, none⟩) s.rules.length (s.rules.length + 3), .slice (some ⟨o 6, 0, none⟩) s.on.length (s.on.length + 3), iv s.miss] 30 false false)).get i = h1.get i := fun i hi => by rw [J05 (by rw [J1D]; omega) (by omega), J06 hi]
  have n2 : ((h1.push (.row [.string ByteArray.empty, .slice none 0 0, .slice none 0 0, .slice none 0 0, .slice none 0 0, .slice none 0 0, .slice none 0 0, iv 0] 30 false false)).put h1.next (.row [.string nm, .slice (some ⟨o 1, 0, none⟩) s.rows.length (s.rows.length + 9), .slice (some ⟨o 2, 0, none⟩) s.queues.length (s.queues.length + 3), .slice (some ⟨o 3, 0, none⟩) s.vars.length (s.vars.length + 3), .slice (some ⟨o 4, 0, none⟩) s.tags.length (s.tags.length + 3), .slice (some ⟨o 5, 0, none⟩) s.rules.length (s.rules.length + 3), .slice (some ⟨o 6, 0, none⟩) s.on.length (s.on.length + 3), iv s.miss] 30 false false)).next = h1.next + 1 := rfl
  have f2 : ((h1.push (.row [.string ByteArray.empty, .slice none 0 0, .slice none 0 0, .slice none 0 0, .slice none 0 0, .slice none 0 0, .slice none 0 0, iv 0] 30 false false)).put h1.next (.row [.string nm, .slice (some ⟨o 1, 0, none⟩) s.rows.length (s.rows.length + 9), .slice (some ⟨o 2, 0, none⟩) s.queues.length (s.queues.length + 3), .slice (some ⟨o 3, 0, none⟩) s.vars.length (s.vars.length + 3), .slice (some ⟨o 4, 0, none⟩) s.tags.length (s.tags.length + 3), .slice (some ⟨o 5, 0, none⟩) s.rules.length (s.rules.length + 3), .slice (some ⟨o 6, 0, none⟩) s.on.length (s.on.length + 3), iv s.miss] 30 false false)).floor = h1.floor := rfl
  generalize (h1.push (.row [.string ByteArray.empty, .slice none 0 0, .slice none 0 0, .slice none 0 0, .slice none 0 0, .slice none 0 0, .slice none 0 0, iv 0] 30 false false)).put h1.next (.row [.string nm, .slice (some ⟨o 1, 0, none⟩) s.rows.length (s.rows.length + 9), .slice (some ⟨o 2, 0, none⟩) s.queues.length (s.queues.length + 3), .slice (some ⟨o 3, 0, none⟩) s.vars.length (s.vars.length + 3), .slice (some ⟨o 4, 0, none⟩) s.tags.length (s.tags.length + 3), .slice (some ⟨o 5, 0, none⟩) s.rules.length (s.rules.length + 3), .slice (some ⟨o 6, 0, none⟩) s.on.length (s.on.length + 3), iv s.miss] 30 false false) = H2 at *
  have lM : ldN 8 0 (H2.get h1.next) = some v1 := by rw [hv1]; exact J9E gM rfl
  have hL2 := hL.mono (h' := H2) (by omega) o2
  have hchk := k_chkP (n := n) hL2.pol hL2.lies hsm (by omega) (by omega) (by rw [o2 0 (by omega), o1 0 (by omega), gO 0 hn0]; exact hg) (by omega) (by omega)
  have hchk' := t_k (n := n) (by decide) hchk
  obtain ⟨h3, hkept, n3, f3, o3⟩ := k_kept7 (n := n) hL2 hpA (Nat.le_refl _) (fun i hi => by rw [o2 i (by omega), o1 i hi]) (by omega) hsm (by omega) (by omega) (by omega)
  have hkept' := t_k (n := n) (by decide) hkept
  have lA2 : ldN 8 0 (H2.get h.next) = some (.agg #[.string nm, vr, vq, vv, vt, vu, vo, iv s.miss]) := by rw [o2 _ (by omega), o1 _ (by omega)]; exact lA
  have lA3 : ldN 8 0 (h3.get h.next) = some (.agg #[.string nm, vr, vq, vv, vt, vu, vo, iv s.miss]) := by rw [o3 _ (by omega)]; exact lA2
  have hp3 : J3x 0 h3 (.agg #[.string nm, vr, vq, vv, vt, vu, vo, iv s.miss]) nm s := hpA.mono (by omega) fun i _ hi => by rw [o3 i hi, o2 i (by omega), o1 i hi]
  have hchd := k_chkD (n := n) hp3 h64 hsm (by omega) (by omega) (by omega)
  have hchd' := t_k (n := n) (by decide) hchd
  have hhd := JfG (n := n) (h := h3) (by rw [o3 0 (by omega), o2 0 (by omega), o1 0 (by omega), gO 0 hn0]; exact hg)
  simp only [evC, seval, ↓evP, hr, J1b, lM, lA2, lA3, hchk', hkept', hchd', hhd, BEq.rfl]
end
end Go.Proofs.YtipekdhneagdbaaDoor
