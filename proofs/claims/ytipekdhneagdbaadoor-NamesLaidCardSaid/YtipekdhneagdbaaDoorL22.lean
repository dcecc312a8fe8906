/- Part 22 of what the claim leans on: 3 texts laid one behind another. -/
import Derived.Test.YtipekdhneagdbaaDoorL21
namespace Go.Proofs.YtipekdhneagdbaaDoor
open Go Go.Sx
set_option maxRecDepth 100000
set_option linter.unusedSimpArgs false
set_option linter.unusedVariables false
theorem slice_cap {h : SHeap} {id c lo hi : Nat} {rows L : List RowN} {ty : TypeId} {g ro : Bool} (hg : h.get id = .row (L.flatMap J0e) ty g ro) (hid : id < h.next) (hL : ∀ j, j < rows.length → L[j]? = rows[j]?) (hc : c ≠ unk) (hnc : rows.length ≤ c) (h1 : lo ≤ hi) (h2 : hi ≤ rows.length) :
  ∃ v', J2M Tryd.prog h 22 (.slice (some ⟨id, 0, none⟩) rows.length c) (some (iv lo)) (some (iv hi)) none = some v' ∧ J0l h v' ((rows.drop lo).take (hi - lo)) := by
 have hl : ((rows.drop lo).take (hi - lo)).length = hi - lo := by rw [List.length_take, List.length_drop]; omega
 have hrow : ∀ k r, ((rows.drop lo).take (hi - lo))[k]? = some r → ((L.flatMap J0e).drop (lo * 5 + k * 5)).take 5 = J0e r := fun k x hk => by
  have hk1 := (List.getElem?_eq_some_iff.1 hk).1
  rw [List.getElem?_take_of_lt (by omega), List.getElem?_drop] at hk
  rw [show lo * 5 + k * 5 = (lo + k) * 5 by omega]
  exact J2Y ((hL _ (by omega)).trans hk)
 refine ⟨.slice (if c = lo then some ⟨id, 0, none⟩ else some ⟨id, lo * 5, none⟩) (hi - lo) (c - lo), ?_, ?_⟩
 ·simp only [J2M, Tryd.underlying22, sz46, J3a, hc, if_false]
  rw [if_pos (by omega)]
  simp only [Int.toNat_natCast]
  rw [if_pos (by omega)]
  simp only [Int.toNat_natCast, Option.map_some, J0q, Nat.zero_add]
 ·by_cases hcl : c = lo
  ·have h0 : (rows.drop lo).take (hi - lo) = [] := List.length_eq_zero_iff.1 (by omega)
   rw [if_pos hcl]
   refine ⟨some ⟨id, 0, none⟩, c - lo, by rw [hl], .inr ⟨id, 0, _, _, _, _, rfl, hg, hid, fun k x hk => ?_⟩⟩
   rw [h0] at hk
   simp at hk
  ·rw [if_neg hcl]
   exact ⟨some ⟨id, lo * 5, none⟩, c - lo, by rw [hl], .inr ⟨id, lo * 5, _, _, _, _, rfl, hg, hid, hrow⟩⟩
theorem kids_res {l : List RowN} {s : StN} (hi : InvR l l.length s) : SameKids s.rows l := by
 refine ⟨hi.len, fun i x hx => ?_⟩
 have hl := (List.getElem?_eq_some_iff.1 hx).1
 obtain ⟨y, hy⟩ : ∃ y, s.rows[i]? = some y := ⟨_, List.getElem?_eq_getElem (by rw [hi.len]; exact hl)⟩
 obtain ⟨z, hz, he⟩ := hi.same i y hy
 rw [hx] at hz
 cases hz
 exact ⟨y, hy, by rw [he]⟩
noncomputable def ops26_3 : Array Oper := J18 Tryd.f26 3
def fs26_3 : List (Bool × Bool × List Operand) := [(true, true, []), (false, true, [.tmp 2]), (false, true, [.tmp 2]), (false, true, [.tmp 2]), (false, false, []), (true, true, [.tmp 2, .tmp 20]), (false, false, []), (false, false, [])]
theorem flags26_3 : J1E ops26_3 = fs26_3 := by kernel_rfl
noncomputable def ops27_2 : Array Oper := J18 Tryd.f27 2
def fs27_2 : List (Bool × Bool × List Operand) := [(true, true, []), (true, true, [.tmp 2]), (false, true, [.tmp 2]), (false, true, [.tmp 2, .tmp 2]), (false, true, [.tmp 2]), (true, true, [.tmp 2, .tmp 2]), (false, false, []), (false, false, [])]
theorem flags27_2 : J1E ops27_2 = fs27_2 := by kernel_rfl
noncomputable def laidN (l : List RowN) (k : Nat) : Int := cAt (resN l).2.rows (J0o l) (J42 (resN l).2.rows (J0o l) (resN l).2.rules) k
section
variable {n N : Nat} {h : SHeap} {l : List RowN}
set_option maxHeartbeats 16000000 in
theorem laidP_walk (hok : (resN l).1.1 = 0) {s : StN} (hs : (resN l).2 = s) {v : Value} {b k : Nat} {o : Nat → Nat} (hL : LentPol h b v (J52 l) s o) (hk : k < s.rows.length) (hlen : l.length ≤ 65536) (hfl : h.floor ≤ h.next) (hg : h.get 0 = J14) (hn0 : 0 < h.next) (hn : 300000 < n) :
  ∃ h', J0L Tryd.prog (J0T n) N 26 [v, iv k] h = some (iv (laidN l k), h') ∧ ∀ i, i < h.next → h'.get i = h.get i := by
 have hsn := (J1z n).2
 refine J1N (R := fun h' => ∀ i, i < h.next → h'.get i = h.get i) Tryd.func26 rfl (by simp [Tryd.f26]) ?_
 have hr : Tryd.f26.results.toList = [.tmp 4] := rfl
 obtain ⟨ht, _, _, _, _, hi⟩ := JhO hok
 rw [hs] at hi
 have hw := hi.wf
 have h1 := hi.len; have h2 := hw.q; have h3 := hw.v; have h4 := hw.t; have h5 := hw.u; have h6 := hw.o
 have hsm : JdC s := by unfold JdC; omega
 have htot : Jbg s ≤ 65736 := by unfold Jbg; omega
 obtain ⟨rfl, ⟨u1, u2, u3, u4, u5, u6, u7⟩, ⟨L, L1⟩, L2, L3, L4, L5, L6⟩ := id hL
 have ca : (Value.agg #[.string (J52 l), .slice (some ⟨o 1, 0, none⟩) s.rows.length (s.rows.length + 9), .slice (some ⟨o 2, 0, none⟩) s.queues.length (s.queues.length + 3), .slice (some ⟨o 3, 0, none⟩) s.vars.length (s.vars.length + 3), .slice (some ⟨o 4, 0, none⟩) s.tags.length (s.tags.length + 3), .slice (some ⟨o 5, 0, none⟩) s.rules.length (s.rules.length + 3), .slice (some ⟨o 6, 0, none⟩) s.on.length (s.on.length + 3), iv s.miss]).cells.toList = [.string (J52 l), .slice (some ⟨o 1, 0, none⟩) s.rows.length (s.rows.length + 9), .slice (some ⟨o 2, 0, none⟩) s.queues.length (s.queues.length + 3), .slice (some ⟨o 3, 0, none⟩) s.vars.length (s.vars.length + 3), .slice (some ⟨o 4, 0, none⟩) s.tags.length (s.tags.length + 3), .slice (some ⟨o 5, 0, none⟩) s.rules.length (s.rules.length + 3), .slice (some ⟨o 6, 0, none⟩) s.on.length (s.on.length + 3), iv s.miss] := rfl
 have oa : [Value.string (J52 l), .slice (some ⟨o 1, 0, none⟩) s.rows.length (s.rows.length + 9), .slice (some ⟨o 2, 0, none⟩) s.queues.length (s.queues.length + 3), .slice (some ⟨o 3, 0, none⟩) s.vars.length (s.vars.length + 3), .slice (some ⟨o 4, 0, none⟩) s.tags.length (s.tags.length + 3), .slice (some ⟨o 5, 0, none⟩) s.rules.length (s.rules.length + 3), .slice (some ⟨o 6, 0, none⟩) s.on.length (s.on.length + 3), iv s.miss].all one = true := rfl
 have gA : (h.push (.row [.string (J52 l), .slice (some ⟨o 1, 0, none⟩) s.rows.length (s.rows.length + 9), .slice (some ⟨o 2, 0, none⟩) s.queues.length (s.queues.length + 3), .slice (some ⟨o 3, 0, none⟩) s.vars.length (s.vars.length + 3), .slice (some ⟨o 4, 0, none⟩) s.tags.length (s.tags.length + 3), .slice (some ⟨o 5, 0, none⟩) s.rules.length (s.rules.length + 3), .slice (some ⟨o 6, 0, none⟩) s.on.length (s.on.length + 3), iv s.miss] 30 false false)).get h.next = .row [.string (J52 l), .slice (some ⟨o 1, 0, none⟩) s.rows.length (s.rows.length + 9), .slice (some ⟨o 2, 0, none⟩) s.queues.length (s.queues.length + 3), .slice (some ⟨o 3, 0, none⟩) s.vars.length (s.vars.length + 3), .slice (some ⟨o 4, 0, none⟩) s.tags.length (s.tags.length + 3), .slice (some ⟨o 5, 0, none⟩) s.rules.length (s.rules.length + 3), .slice (some ⟨o 6, 0, none⟩) s.on.length (s.on.length + 3), iv s.miss] 30 false false := J0h
 have gO : ∀ i, i < h.next → (h.push (.row [.string (J52 l), .slice (some ⟨o 1, 0, none⟩) s.rows.length (s.rows.length + 9), .slice (some ⟨o 2, 0, none⟩) s.queues.length (s.queues.length + 3), .slice (some ⟨o 3, 0, none⟩) s.vars.length (s.vars.length + 3), .slice (some ⟨o 4, 0, none⟩) s.tags.length (s.tags.length + 3), .slice (some ⟨o 5, 0, none⟩) s.rules.length (s.rules.length + 3), .slice (some ⟨o 6, 0, none⟩) s.on.length (s.on.length + 3), iv s.miss] 30 false false)).get i = h.get i := fun i hi => J06 hi
 have nA : (h.push (.row [.string (J52 l), .slice (some ⟨o 1, 0, none⟩) s.rows.length (s.rows.length + 9), .slice (some ⟨o 2, 0, none⟩) s.queues.length (s.queues.length + 3), .slice (some ⟨o 3, 0, none⟩) s.vars.length (s.vars.length + 3), .slice (some ⟨o 4, 0, none⟩) s.tags.length (s.tags.length + 3), .slice (some ⟨o 5, 0, none⟩) s.rules.length (s.rules.length + 3), .slice (some ⟨o 6, 0, none⟩) s.on.length (s.on.length + 3), iv s.miss] 30 false false)).next = h.next + 1 := rfl
 have fA : (h.push (.row [.string (J52 l), .slice (some ⟨o 1, 0, none⟩) s.rows.length (s.rows.length + 9), .slice (some ⟨o 2, 0, none⟩) s.queues.length (s.queues.length + 3), .slice (some ⟨o 3, 0, none⟩) s.vars.length (s.vars.length + 3), .slice (some ⟨o 4, 0, none⟩) s.tags.length (s.tags.length + 3), .slice (some ⟨o 5, 0, none⟩) s.rules.length (s.rules.length + 3), .slice (some ⟨o 6, 0, none⟩) s.on.length (s.on.length + 3), iv s.miss] 30 false false)).floor = h.floor := rfl
 simp only [evC, seval, ↓evP, rpD, J0X, J2t, ca, oa, sz30]
 generalize h.push (.row [.string (J52 l), .slice (some ⟨o 1, 0, none⟩) s.rows.length (s.rows.length + 9), .slice (some ⟨o 2, 0, none⟩) s.queues.length (s.queues.length + 3), .slice (some ⟨o 3, 0, none⟩) s.vars.length (s.vars.length + 3), .slice (some ⟨o 4, 0, none⟩) s.tags.length (s.tags.length + 3), .slice (some ⟨o 5, 0, none⟩) s.rules.length (s.rules.length + 3), .slice (some ⟨o 6, 0, none⟩) s.on.length (s.on.length + 3), iv s.miss] 30 false false) = A at *
 have lA : ldN 8 0 (A.get h.next) = some (.agg #[.string (J52 l), .slice (some ⟨o 1, 0, none⟩) s.rows.length (s.rows.length + 9), .slice (some ⟨o 2, 0, none⟩) s.queues.length (s.queues.length + 3), .slice (some ⟨o 3, 0, none⟩) s.vars.length (s.vars.length + 3), .slice (some ⟨o 4, 0, none⟩) s.tags.length (s.tags.length + 3), .slice (some ⟨o 5, 0, none⟩) s.rules.length (s.rules.length + 3), .slice (some ⟨o 6, 0, none⟩) s.on.length (s.on.length + 3), iv s.miss]) := J9E gA rfl
 have x1 : ld1 1 (A.get h.next) = some (.slice (some ⟨o 1, 0, none⟩) s.rows.length (s.rows.length + 9)) := by rw [gA]; rfl
 have hLA := hL.mono (h' := A) (by omega) gO
 have hchk := k_chkP (n := n) hLA.pol hLA.lies hsm (by omega) (by omega) (by rw [gO 0 hn0]; exact hg) (by omega) (by omega)
 rw [show chkPol (J52 l) s = 0 by rw [← hs]; exact chk_res hok] at hchk
 have len1 : ∀ h' : SHeap, lenS Tryd.prog h' 22 (.slice (some ⟨o 1, 0, none⟩) s.rows.length (s.rows.length + 9)) = some (iv (s.rows.length : Int)) := fun h' => JeK
 have c1 : decide ((k : Int) < 0) = false := by simp
 have c2 : decide ((k : Int) ≥ (s.rows.length : Int)) = false := by simp; omega
 simp only [evC, seval, ↓evP, Nat.zero_add, c1, J0y, J0F, x1, len1, c2, J1b, lA, hchk, bne_self_eq_false]
 have hrows : J0l (A.fl (max A.floor A.next)) (.slice (some ⟨o 1, 0, none⟩) s.rows.length (s.rows.length + 9)) s.rows := (lent_rows L1 (by omega)).mono (by rw [J0J]; omega) gO
 obtain ⟨E1, he1, ge1, ne1, fe1, oe1⟩ := k_ends' (n := n) ht (kids_res hi) hrows (by omega) (by omega) (by rw [J0J, JiM]; omega)
 rw [J0J] at he1 ge1 ne1 oe1
 rw [JiM] at fe1
 have hLay := J8n ht (by omega) hi
 have oE : ∀ i, i < h.next → (E1.fl A.floor).get i = h.get i := fun i hi => (oe1 i (by omega)).trans (gO i hi)
 have hsl : ∀ (lo hi : Nat) h', (∀ i, i < (E1.fl A.floor).next → h'.get i = (E1.fl A.floor).get i) → (E1.fl A.floor).next ≤ h'.next → lo ≤ hi → hi ≤ s.rows.length → ∃ v', J2M Tryd.prog h' 22 (.slice (some ⟨o 1, 0, none⟩) s.rows.length (s.rows.length + 9)) (some (iv lo)) (some (iv hi)) none = some v' ∧ J0l h' v' ((s.rows.drop lo).take (hi - lo)) := fun lo hi h' a1 a2 a3 a4 => by
  rw [J0J] at a1 a2
  exact slice_cap (by rw [a1 _ (by omega), oE _ (by omega)]; exact L1.g) (by omega) L1.own (by unfold unk; omega) (by omega) a3 a4
 have p5 : J1S 0 (E1.fl A.floor) (.slice (some ⟨o 5, 0, none⟩) s.rules.length (s.rules.length + 3)) s.rules := (L5.mono (h' := E1.fl A.floor) (oE _ (by omega))).cells ⟨Nat.zero_le _, by rw [J0J]; omega⟩
 obtain ⟨h2', hc2, hCnt, n2, f2, o2⟩ := Jg7 (n := n) (h := E1.fl A.floor) (ce := l.length) (v0 := .string (J52 l)) (v2 := .slice (some ⟨o 2, 0, none⟩) s.queues.length (s.queues.length + 3)) (v3 := .slice (some ⟨o 3, 0, none⟩) s.vars.length (s.vars.length + 3)) (v4 := .slice (some ⟨o 4, 0, none⟩) s.tags.length (s.tags.length + 3)) (v6 := .slice (some ⟨o 6, 0, none⟩) s.on.length (s.on.length + 3)) (v7 := iv s.miss) hLay rfl (by rw [J0J, JiM]; omega) (by omega) hsl p5 ge1 (by rw [J0J]; omega)
 rw [J39] at hc2
 have hcnt := Jdw (n := n) hLay hCnt (J6d).1 (J6d).2 (by rw [J0J] at n2; rw [f2, JiM]; omega) hk (by omega)
 rw [J0J] at hcnt
 have hres : laidN l k = cAt s.rows (J0o l) (J42 s.rows (J0o l) s.rules) k := by unfold laidN; rw [hs]
 have hff : h2'.fl A.floor = h2' := by rw [show A.floor = h2'.floor by rw [f2, JiM]]; exact J6L h2'
 have hAlt : (h.next < A.next) = True := by rw [nA]; simp
 rw [hres]
 refine WK.flags (ops := ops26_3) flags26_3 ?_
 refine WKF.begin ?_
 have FF := And.intro @J0y (And.intro @J0F (And.intro @J1b (And.intro @lA (And.intro @x1 (And.intro @hAlt (And.intro @he1 (And.intro @hc2 (And.intro @hff (And.intro @hcnt @JiM)))))))))
 refine wst hsn 0 (some 19) (.load 30 (.tmp 2)) none ?_
 simp only [rgC, seval, J04, J02, WKFC, rgL, Nat.zero_add, List.toList_toArray, FF]
 refine wst hsn 1 (some 20) (.fieldAddr 30 (.tmp 2) 1) none ?_
 simp only [rgC, seval, J04, J02, WKFC, Nat.zero_add, Nat.zero_add, List.toList_toArray, FF]
 refine wst hsn 2 (some 21) (.load 22 (.tmp 20)) none ?_
 simp only [rgC, seval, J04, J02, WKFC, rgL, Nat.zero_add, List.toList_toArray, FF]
 refine wst hsn 3 (some 22) (.call { callee := .value (.func 49), args := #[.tmp 21], argTypes := #[22] }) none ?_
 simp only [rgC, seval, J04, J02, WKFC, rgK, Nat.zero_add, List.toList_toArray, FF]
 refine wst hsn 4 (some 23) (.call { callee := .value (.func 72), args := #[.tmp 19, .tmp 22], argTypes := #[30, 28] }) none ?_
 simp only [rgC, seval, J04, J02, WKFC, rgK, Nat.zero_add, List.toList_toArray, FF]
 refine wst hsn 5 (some 24) (.move (.tmp 1)) none ?_
 simp only [rgC, seval, J04, J02, WKFC, Nat.zero_add, List.toList_toArray, FF]
 refine wst hsn 6 (some 25) (.call { callee := .value (.tmp 23), args := #[.tmp 24], argTypes := #[3] }) none ?_
 simp only [rgC, seval, J04, J02, WKFC, rgK, Nat.zero_add, List.toList_toArray, FF]
 refine wst hsn 7 (some 4) (.assign (.tmp 25)) none ?_
 simp only [rgC, seval, J04, J02, WKFC, Nat.zero_add, List.toList_toArray, FF]
 refine WKF.done (i := 8) (by kernel_rfl) ?_
 clear FF
 simp only [evC, seval, ↓evP, hr]
 exact fun i hi => (o2 i (by rw [J0J]; omega)).trans (oE i hi)
theorem k_laidP (hok : (resN l).1.1 = 0) {s : StN} (hs : (resN l).2 = s) {v : Value} {b k : Nat} {o : Nat → Nat} (hL : LentPol h b v (J52 l) s o) (hk : k < s.rows.length) (hlen : l.length ≤ 65536) (hfl : h.floor ≤ h.next) (hg : h.get 0 = J14) (hn0 : 0 < h.next) (hn : 300001 < n) :
  J0T n 26 [v, iv k] h = some (iv (laidN l k), h) := by
 obtain ⟨n, rfl⟩ : ∃ j, n = j + 1 := ⟨n - 1, by omega⟩
 exact J4r (J13 ⟨rfl, rfl, rfl⟩) rfl (laidP_walk (n := n) (N := n) hok hs hL hk hlen hfl hg hn0 (by omega))
set_option maxHeartbeats 16000000 in
theorem laidD_walk (hok : (resN l).1.1 = 0) {s : StN} (hs : (resN l).2 = s) {pv : Value} {lo k : Nat} (hp : J3x lo h pv (J52 l) s) (hk : k < s.rows.length) (hlen : l.length ≤ 65536) (hfl : h.floor ≤ h.next) (hn : 300000 < n) :
  ∃ h', J0L Tryd.prog (J0T n) N 27 [pv, iv k] h = some (iv (laidN l k), h') ∧ ∀ i, i < h.next → h'.get i = h.get i := by
 have hsn := (J1z n).2
 refine J1N (R := fun h' => ∀ i, i < h.next → h'.get i = h.get i) Tryd.func27 rfl (by simp [Tryd.f27]) ?_
 have hr : Tryd.f27.results.toList = [.tmp 4] := rfl
 obtain ⟨ht, _, hgo, _, heq, hi⟩ := JhO hok
 have hLR : LayR s.rows (J0o l) s.rules := by
  rw [← hs, heq]
  rw [heq] at hi
  exact JgY ht (by omega) hi (JdQ ht l.length 0 (s0N l) (by omega) (inv0 l) (JjD l) hgo)
 rw [hs] at hi
 have hw := hi.wf
 have h1 := hi.len; have h2 := hw.q; have h3 := hw.v; have h4 := hw.t; have h5 := hw.u; have h6 := hw.o
 obtain ⟨vr, vq, vv, vt, vu, vo, rfl, p1, p2, p3, p4, p5, p6⟩ := id hp
 have ca : (Value.agg #[.string (J52 l), vr, vq, vv, vt, vu, vo, iv s.miss]).cells.toList = [.string (J52 l), vr, vq, vv, vt, vu, vo, iv s.miss] := rfl
 have oa := all8 (nm := J52 l) p1 p2 p3 p4 p5 p6
 have gA : (h.push (.row [.string (J52 l), vr, vq, vv, vt, vu, vo, iv s.miss] 30 false false)).get h.next = .row [.string (J52 l), vr, vq, vv, vt, vu, vo, iv s.miss] 30 false false := J0h
 have gO : ∀ i, i < h.next → (h.push (.row [.string (J52 l), vr, vq, vv, vt, vu, vo, iv s.miss] 30 false false)).get i = h.get i := fun i hi => J06 hi
 have nA : (h.push (.row [.string (J52 l), vr, vq, vv, vt, vu, vo, iv s.miss] 30 false false)).next = h.next + 1 := rfl
 have fA : (h.push (.row [.string (J52 l), vr, vq, vv, vt, vu, vo, iv s.miss] 30 false false)).floor = h.floor := rfl
 simp only [evC, seval, ↓evP, rpD, J0X, J2t, ca, oa, sz30]
 generalize h.push (.row [.string (J52 l), vr, vq, vv, vt, vu, vo, iv s.miss] 30 false false) = A at *
 have x1 : ld1 1 (A.get h.next) = some vr := by rw [gA]; rfl
 obtain ⟨E1, he1, ge1, ne1, fe1, oe1⟩ := k_endsR' (n := n) ht (kids_res hi) (p1.1.mono (h' := A) (by omega) gO) (by omega) (by omega) (by omega)
 simp only [evC, seval, ↓evP, Nat.zero_add, J0y, J0F, x1, he1]
 have oE : ∀ i, i < h.next → E1.get i = h.get i := fun i hi => (oe1 i (by omega)).trans (gO i hi)
 have lA : ldN 8 0 (E1.get h.next) = some (.agg #[.string (J52 l), vr, vq, vv, vt, vu, vo, iv s.miss]) := by rw [oe1 _ (by omega)]; exact J9E gA rfl
 have hv2 : J0l (E1.fl (max E1.floor E1.next)) vr s.rows := p1.1.mono (by rw [J0J]; omega) oE
 have hE2 : J1S 0 (E1.fl (max E1.floor E1.next)) (.slice (some ⟨A.next, 0, none⟩) l.length l.length) (J0o l) := J1S.row' (ge1.trans rfl) ⟨Nat.zero_le _, by rw [J0J]; omega⟩ J39.symm
 have hu2 : J1S lo (E1.fl (max E1.floor E1.next)) vu s.rules := J1S.mono p5 (by rw [J0J]; omega) fun i _ hi => oE i hi
 obtain ⟨vs, S1, hc1, hS1, fS, nS, oS⟩ := JgX (n := n) (v0 := .string (J52 l)) (v7 := iv s.miss) ⟨rfl, p2.one, p3.one, p4.one, J0p.one p6, rfl⟩ hv2 hE2 hu2 hLR (by rw [J0J, JiM]; omega) (by omega)
 rw [JgL hLR] at hS1
 rw [J0J] at hS1 nS oS
 rw [JiM] at fS
 have oS' : ∀ i, i < E1.next → (S1.fl E1.floor).get i = E1.get i := oS
 have hv3 : J0l (S1.fl E1.floor) vr s.rows := p1.1.mono (by rw [J0J]; omega) fun i hi => (oS' i (by omega)).trans (oE i hi)
 have hE3 : J1S 0 (S1.fl E1.floor) (.slice (some ⟨A.next, 0, none⟩) l.length l.length) (J0o l) := J1S.row' ((oS' _ (by omega)).trans ge1) ⟨Nat.zero_le _, by rw [J0J]; omega⟩ J39.symm
 have hS3 : J1S E1.next (S1.fl E1.floor) vs (J42 s.rows (J0o l) s.rules) := J1S.mono hS1 (Nat.le_refl _) fun _ _ _ => rfl
 have hcnt := JdU (n := n) (v0 := .string (J52 l)) (vq := vq) (vv := vv) (vt := vt) (vu := vu) (vo := vo) (v7 := iv s.miss) (row := k) ⟨rfl, p2.one, p3.one, p4.one, J0p.one p5, J0p.one p6, rfl⟩ hv3 hE3 hS3 (J6d).1 hLR.lay hk (by omega) (fun x hx h22 => by
  rw [(J6d).2]
  obtain ⟨q, _, _, _, q4⟩ := hLR.lay.end hk
  rw [q4] at hx
  exact hLR.lay.calls x (List.mem_of_mem_drop (List.mem_of_mem_take hx)) h22)
 have hres : laidN l k = cAt s.rows (J0o l) (J42 s.rows (J0o l) s.rules) k := by unfold laidN; rw [hs]
 have hAlt : (h.next < E1.next) = True := by simp; omega
 rw [hres]
 refine WK.flags (ops := ops27_2) flags27_2 ?_
 refine WKF.begin ?_
 have FF := And.intro @J1b (And.intro @lA (And.intro @hAlt (And.intro @hc1 (And.intro @hcnt (And.intro @JiM @J1g)))))
 refine wst hsn 0 (some 9) (.load 30 (.tmp 2)) none ?_
 simp only [rgC, seval, J04, J02, WKFC, rgL, FF]
 refine wst hsn 1 (some 10) (.move (.tmp 5)) none ?_
 simp only [rgC, seval, J04, J02, WKFC, FF]
 refine wst hsn 2 (some 11) (.load 30 (.tmp 2)) none ?_
 simp only [rgC, seval, J04, J02, WKFC, rgL, FF]
 refine wst hsn 3 (some 12) (.move (.tmp 5)) none ?_
 simp only [rgC, seval, J04, J02, WKFC, FF]
 refine wst hsn 4 (some 13) (.call { callee := .value (.func 61), args := #[.tmp 11, .tmp 12], argTypes := #[30, 28] }) none ?_
 simp only [rgC, seval, J04, J02, WKFC, rgK, FF]
 refine wst hsn 5 (some 14) (.move (.tmp 1)) none ?_
 simp only [rgC, seval, J04, J02, WKFC, FF]
 refine wst hsn 6 (some 15) (.call { callee := .value (.func 63), args := #[.tmp 9, .tmp 10, .tmp 13, .tmp 14], argTypes := #[30, 28, 28, 3] }) none ?_
 simp only [rgC, seval, J04, J02, WKFC, rgK, FF]
 refine wst hsn 7 (some 4) (.assign (.tmp 15)) none ?_
 simp only [rgC, seval, J04, J02, WKFC, FF]
 refine WKF.done (i := 8) (by kernel_rfl) ?_
 clear FF
 simp only [evC, seval, ↓evP, hr]
 exact fun i hi => (oS' i (by omega)).trans (oE i hi)
theorem k_laidD (hok : (resN l).1.1 = 0) {s : StN} (hs : (resN l).2 = s) {pv : Value} {lo k : Nat} (hp : J3x lo h pv (J52 l) s) (hk : k < s.rows.length) (hlen : l.length ≤ 65536) (hfl : h.floor ≤ h.next) (hn : 300001 < n) :
  J0T n 27 [pv, iv k] h = some (iv (laidN l k), h) := by
 obtain ⟨n, rfl⟩ : ∃ j, n = j + 1 := ⟨n - 1, by omega⟩
 exact J4r (J13 ⟨rfl, rfl, rfl⟩) rfl (laidD_walk (n := n) (N := n) hok hs hp hk hlen hfl (by omega))
end
noncomputable def ops5_9 : Array Oper := J18 Tryd.f5 9
def fs5_9 : List (Bool × Bool × List Operand) := [(false, true, []), (false, true, []), (false, true, []), (false, true, []), (false, true, [.tmp 35]), (false, true, [.tmp 35]), (false, true, [.tmp 35]), (false, false, []), (false, false, [])]
theorem flags5_9 : J1E ops5_9 = fs5_9 := by kernel_rfl
theorem not_true : (!true) = false := rfl
section
variable {n : Nat} {h : SHeap}
set_option maxHeartbeats 32000000 in
theorem laid_walk {l : List RowN} {v w : Value} {A : List Int} {lw : Nat} (hv : J0l h v l) (hw : J1S lw h w A) (h64 : ∀ x ∈ l, x.kids ≤ 9223372036854775807) (hfl : h.floor ≤ h.next) (hg : h.get 0 = J14) (hn0 : 0 < h.next) (hn : 400000 < n) :
  ∃ h', J0L Tryd.prog (Jb4 n) n 5 [v, w] h = some (.bool true, h') ∧ True := by
 have hsn := (JaT n).2
 refine J1N (R := fun _ => True) Tryd.func5 rfl (by simp [Tryd.f5]) ?_
 have hr : Tryd.f5.results.toList = [.tmp 4] := rfl
 have hfar := t_k (by decide) (JiW (n := n) hv (by omega))
 cases d : decide ((l.length : Int) > 65536) with
 | true =>
  rw [d] at hfar
  have hhd := JfG (n := n) hg
  simp only [evC, seval, ↓evP, hr, hfar, hhd]
 | false =>
 rw [d] at hfar
 have hl : l.length ≤ 65536 := by
  have := of_decide_eq_false d
  omega
 obtain ⟨v2, h2, hres, pv, rfl, hp, f2, n2, o2⟩ := Jij (n := n) (h := h) (by omega) hv (by omega) h64 (by omega)
 have hres' := t_k (n := n) (by decide) hres
 obtain ⟨nm, s, hout⟩ : ∃ nm s, outN l = (nm, s) := ⟨_, _, rfl⟩
 have hsm := (JdR (l := l) (by omega)).1
 have htot := (JdR (l := l) (by omega)).2
 rw [hout] at hp hsm htot
 simp only at hp hsm htot
 obtain ⟨vr, vq, vv, vt, vu, vo, rfl, p1, p2, p3, p4, p5, p6⟩ := hp
 have oa := all8 (nm := nm) p1 p2 p3 p4 p5 p6
 obtain ⟨⟨hc, h3⟩, s1, s2, rO, n3, f3, o3⟩ := laid_out (H := h2) (cs := [.string nm, vr, vq, vv, vt, vu, vo, iv s.miss]) (e := (resN l).1.1) (p := (resN l).1.2) rfl oa (by omega)
 simp only at s1 s2 rO n3 f3 o3
 have x1 : ld1 1 (h3.get h2.next) = some vr := by rw [rO.1]; rfl
 have lF : ld1 0 (h3.get (h2.next + 1)) = some (iv (resN l).1.1) := by rw [rO.2]; rfl
 have zc30 : zPol.cells.toList = [.string ByteArray.empty, .slice none 0 0, .slice none 0 0, .slice none 0 0, .slice none 0 0, .slice none 0 0, .slice none 0 0, iv 0] := rfl
 have zc33 : (J2k 0 0).cells.toList = [iv 0, iv 0] := rfl
 have hg3 : h3.get 0 = J14 := by rw [o3 0 (by omega), o2 0 (by omega)]; exact hg
 simp only [evC, seval, ↓evP, hfar, hres', J5F, J3Y, zc30, J3C, J1t, zc33, J1D, s1, s2, Nat.zero_add, J6a, J7G, lF]
 cases d0 : ((resN l).1.1 != 0) with
 | true =>
  have hhd := JfG (n := n) (h := h3) hg3
  simp only [evC, seval, ↓evP, hr, d0, hhd]
 | false =>
 have hok : (resN l).1.1 = 0 := by simpa using d0
 have hgood := hout.symm.trans (JeO hok)
 obtain ⟨rfl, rfl⟩ : nm = J52 l ∧ s = (resN l).2 := by cases hgood; exact ⟨rfl, rfl⟩
 obtain ⟨ht, _, _, _, _, hi⟩ := JhO hok
 have hpos := ht.pos
 have hlen := hi.len
 have hwf := hi.wf
 have e2 := hwf.q; have e3 := hwf.v; have e4 := hwf.t; have e5 := hwf.u; have e6 := hwf.o
 generalize hs : (resN l).2 = s at *
 have hp3 : J3x h.next h3 (.agg #[.string (J52 l), vr, vq, vv, vt, vu, vo, iv s.miss]) (J52 l) s := J3x.mono (h := h2) ⟨vr, vq, vv, vt, vu, vo, rfl, p1, p2, p3, p4, p5, p6⟩ (by omega) fun i _ hi => o3 i hi
 have lP3 : ldN 8 0 (h3.get h2.next) = some (.agg #[.string (J52 l), vr, vq, vv, vt, vu, vo, iv s.miss]) := J9E rO.1 rfl
 have len1 := fun h' => JfA p1.2 h'
 have lenw := fun h' => JfF hw h'
 obtain ⟨ar, cr, hvr, _⟩ := id p1.2.2
 have len1' : ∀ h' : SHeap, lenS Tryd.prog h' 22 (.slice ar s.rows.length cr) = some (iv (s.rows.length : Int)) := fun h' => JeK
 simp only [evC, seval, ↓evP, d0]
 refine WK.loop (fun i s' => s'.T.get 0 = v ∧ s'.T.get 1 = w ∧ s'.T.get 5 = .pointer (some ⟨h2.next, 0, none⟩) ∧ s'.T.get 7 = iv i ∧ i ≤ 40 ∧ h3.next ≤ s'.h.next ∧ s'.h.floor = h3.floor ∧ ∀ j, j < h3.next → s'.h.get j = h3.get j) 40 (by omega) ?_ ?_
 ·exact ⟨by simp only [evC, seval, ↓evP, rpC], by simp only [evC, seval, ↓evP, rpC], by simp only [evC, seval, ↓evP, rpC], by simp only [evC, seval, ↓evP, rpC], by omega, Nat.le_refl _, rfl, fun _ _ => rfl⟩
 rintro i ⟨T1, H1⟩ hi1 ⟨t0, t1, t5, t7, hil, m1, m2, m3⟩
 simp only at t0 t1 t5 t7 m1 m2 m3
 have hhd := JfG (n := n) (h := H1) (by rw [m3 0 (by omega)]; exact hg3)
 cases c1 : decide ((i : Int) < (A.length : Int)) with
 | false =>
  simp only [evC, seval, ↓evP, hr, t0, t1, t5, t7, lenw, c1, hhd]
 | true =>
 cases c2 : decide ((i : Int) < 40) with
 | false =>
  simp only [evC, seval, ↓evP, hr, t0, t1, t5, t7, lenw, c1, c2, hhd]
 | true =>
 have d1 := of_decide_eq_true c1
 have d2 := of_decide_eq_true c2
 obtain ⟨a, ha⟩ : ∃ a, A[i]? = some a := ⟨_, List.getElem?_eq_getElem (by omega)⟩
 have hwH : J1S lw H1 w A := J1S.mono hw (by omega) fun j _ hj => by rw [m3 j (by omega), o3 j (by omega), o2 j hj]
 obtain ⟨ida, pa, ea, hida, la⟩ := J1S.get hwH ha
 have gA1 : H1.get h2.next = h3.get h2.next := m3 _ (by omega)
 have hra := fun H => t_k (n := n) (by decide) (k_round (n := n) (h := H) (a := a) (m := (s.rows.length : Int)) ⟨by omega, by omega⟩ (by omega))
 obtain ⟨k, hk⟩ : ∃ k : Nat, a % (s.rows.length : Int) = (k : Int) := ⟨_, (Int.toNat_of_nonneg (Int.emod_nonneg a (by omega))).symm⟩
 have hkl : k < s.rows.length := by
  have := Int.emod_lt_of_pos a (show (0 : Int) < s.rows.length by omega)
  omega
 simp only [hk] at hra
 simp only [evC, seval, ↓evP, t0, t1, t5, t7, lenw, c1, c2]
 refine WK.flags (ops := ops5_9) flags5_9 ?_
 refine WKF.begin ?_
 have FF := And.intro @JcC (And.intro @t1 (And.intro @t5 (And.intro @t7 (And.intro @ea (And.intro @J0m (And.intro @la (And.intro @J0y (And.intro @J0F (And.intro @gA1 (And.intro @x1 (And.intro @hvr (And.intro @len1' (And.intro @hra (And.intro @JiM (And.intro @J1g (And.intro @J0J (And.intro @Jk2 @J6L)))))))))))))))))
 refine wst hsn 0 (some 33) (.move (.tmp 1)) none ?_
 simp only [rgC, seval, J04, J02, WKFC, FF]
 refine wst hsn 1 (some 34) (.move (.tmp 7)) none ?_
 simp only [rgC, seval, J04, J02, WKFC, FF]
 refine wst hsn 2 (some 35) (.indexAddr 28 (.tmp 33) (.tmp 34)) none ?_
 simp only [rgC, seval, J04, J02, WKFC, Nat.zero_add, FF]
 refine wst hsn 3 (some 36) (.load 3 (.tmp 35)) none ?_
 simp only [rgC, seval, J04, J02, WKFC, rgL, FF]
 refine wst hsn 4 (some 37) (.fieldAddr 30 (.tmp 5) 1) none ?_
 simp only [rgC, seval, J04, J02, WKFC, Nat.zero_add, FF]
 refine wst hsn 5 (some 38) (.load 22 (.tmp 37)) none ?_
 simp only [rgC, seval, J04, J02, WKFC, rgL, FF]
 refine wst hsn 6 (some 39) (.call { callee := .builtin .len, args := #[.tmp 38], argTypes := #[22] }) none ?_
 simp only [rgC, seval, J04, J02, WKFC, rgK, FF]
 refine wst hsn 7 (some 40) (.call { callee := .value (.func 25), args := #[.tmp 36, .tmp 39], argTypes := #[3, 3] }) none ?_
 simp only [rgC, seval, J04, J02, WKFC, rgK, FF]
 refine wst hsn 8 (some 8) (.assign (.tmp 40)) none ?_
 simp only [rgC, seval, J04, J02, WKFC, FF]
 refine WKF.done (i := 9) (by kernel_rfl) ?_
 clear FF
 have hpH : J3x h.next H1 (.agg #[.string (J52 l), vr, vq, vv, vt, vu, vo, iv s.miss]) (J52 l) s := hp3.mono (by omega) fun j _ hj => m3 j hj
 have lP1 : ldN 8 0 (H1.get h2.next) = some (.agg #[.string (J52 l), vr, vq, vv, vt, vu, vo, iv s.miss]) := by rw [gA1]; exact lP3
 obtain ⟨v1, h4, hlend, ⟨o, hL⟩, n4, f4, o4⟩ := k_lend7 (n := n) hpH hsm (by omega) (by omega) (by omega) (by omega)
 have hlend' := t_k (n := n) (by decide) hlend
 have hv1 := hL.v
 have hst := stW (t := 30) sz30 (h := h4.push (.row [.string ByteArray.empty, .slice none 0 0, .slice none 0 0, .slice none 0 0, .slice none 0 0, .slice none 0 0, .slice none 0 0, iv 0] 30 false false)) (vs := [.string (J52 l), .slice (some ⟨o 1, 0, none⟩) s.rows.length (s.rows.length + 9), .slice (some ⟨o 2, 0, none⟩) s.queues.length (s.queues.length + 3), .slice (some ⟨o 3, 0, none⟩) s.vars.length (s.vars.length + 3), .slice (some ⟨o 4, 0, none⟩) s.tags.length (s.tags.length + 3), .slice (some ⟨o 5, 0, none⟩) s.rules.length (s.rules.length + 3), .slice (some ⟨o 6, 0, none⟩) s.on.length (s.on.length + 3), iv s.miss]) (J0h (h := h4)) rfl rfl rfl (by rw [J0i]; omega)
 rw [← hv1] at hst
 simp only [evC, seval, ↓evP, JcC, t0, t1, t5, t7, J1b, lP1, hlend', J5F, J3Y, zc30, hst]
 have gM : ((h4.push (.row [.string ByteArray.empty, .slice none 0 0, .slice none 0 0, .slice none 0 0, .slice none 0 0, .slice none 0 0, .slice none 0 0, iv 0] 30 false false)).put h4.next (.row [.string (J52 l), .slice (some ⟨o 1, 0, none⟩) s.rows.length (s.rows.length + 9), .slice (some ⟨o 2, 0, none⟩) s.queues.length (s.queues.length + 3), .slice (some ⟨o 3, 0, none⟩) s.vars.length (s.vars.length + 3), .slice (some ⟨o 4, 0, none⟩) s.tags.length (s.tags.length + 3), .slice (some ⟨o 5, 0, none⟩) s.rules.length (s.rules.length + 3), .slice (some ⟨o 6, 0, none⟩) s.on.length (s.on.length + 3), iv s.miss] 30 false false)).get h4.next = .row [.string (J52 l), .slice (some ⟨o 1, 0, none⟩) s.rows.length (s.rows.length + 9), .slice (some ⟨o 2, 0, none⟩) s.queues.length (s.queues.length + 3), .slice (some ⟨o 3, 0, none⟩) s.vars.length (s.vars.length + 3), .slice (some ⟨o 4, 0, none⟩) s.tags.length (s.tags.length + 3), .slice (some ⟨o 5, 0, none⟩) s.rules.length (s.rules.length + 3), .slice (some ⟨o 6, 0, none⟩) s.on.length (s.on.length + 3), iv s.miss] 30 false false := J0b rfl (by rw [J1D]; omega)
 have o5 : ∀ j, j < h4.next → ((h4.push (.row [.string ByteArray.empty, .slice none 0 0, .slice none 0 0, .slice none 0 0, .slice none 0 0, .slice none 0 0, .slice none 0 0, iv 0] 30 false false)).put h4.next (.row [.string (J52 l), .slice (some ⟨o 1, 0, none⟩) s.rows.length (s.rows.length + 9), .slice (some ⟨o 2, 0, none⟩) s.queues.length (s.queues.length + 3), .slice (some ⟨o 3, 0, none⟩) s.vars.length (s.vars.length + 3), .slice (some ⟨o 4, 0, none⟩) s.tags.length (s.tags.length + 3), .slice (some ⟨o 5, 0, none⟩) s.rules.length (s.rules.length + 3), .slice (some ⟨o 6, 0, none⟩) s.on.length (s.on.length + 3), iv s.miss] 30 false false)).get j = h4.get j := fun j hj => by rw [J05 (by rw [J1D]; omega) (by omega), J06 hj]
 have n5 : ((h4.push (.row [.string ByteArray.empty, .slice none 0 0, .slice none 0 0, .slice none 0 0, .slice none 0 0, .slice none 0 0, .slice none 0 0, iv 0] 30 false false)).put h4.next (.row [.string (J52 l), .slice (some ⟨o 1, 0, none⟩) s.rows.length (s.rows.length + 9), .slice (some ⟨o 2, 0, none⟩) s.queues.length (s.queues.length + 3), .slice (some ⟨o 3, 0, none⟩) s.vars.length (s.vars.length + 3), .slice (some ⟨o 4, 0, none⟩) s.tags.length (s.tags.length + 3), .slice (some ⟨o 5, 0, none⟩) s.rules.length (s.rules.length + 3), .slice (some ⟨o 6, 0, none⟩) s.on.length (s.on.length + 3), iv s.miss] 30 false false)).next = h4.next + 1 := rfl
 have f5 : ((h4.push (.row [.string ByteArray.empty, .slice none 0 0, .slice none 0 0, .slice none 0 0, .slice none 0 0, .slice none 0 0, .slice none 0 0, iv 0] 30 false false)).put h4.next (.row [.string (J52 l), .slice (some ⟨o 1, 0, none⟩) s.rows.length (s.rows.length + 9), .slice (some ⟨o 2, 0, none⟩) s.queues.length (s.queues.length + 3), .slice (some ⟨o 3, 0, none⟩) s.vars.length (s.vars.length + 3), .slice (some ⟨o 4, 0, none⟩) s.tags.length (s.tags.length + 3), .slice (some ⟨o 5, 0, none⟩) s.rules.length (s.rules.length + 3), .slice (some ⟨o 6, 0, none⟩) s.on.length (s.on.length + 3), iv s.miss] 30 false false)).floor = h4.floor := rfl
 generalize (h4.push (.row [.string ByteArray.empty, .slice none 0 0, .slice none 0 0, .slice none 0 0, .slice none 0 0, .slice none 0 0, .slice none 0 0, iv 0] 30 false false)).put h4.next (.row [.string (J52 l), .slice (some ⟨o 1, 0, none⟩) s.rows.length (s.rows.length + 9), .slice (some ⟨o 2, 0, none⟩) s.queues.length (s.queues.length + 3), .slice (some ⟨o 3, 0, none⟩) s.vars.length (s.vars.length + 3), .slice (some ⟨o 4, 0, none⟩) s.tags.length (s.tags.length + 3), .slice (some ⟨o 5, 0, none⟩) s.rules.length (s.rules.length + 3), .slice (some ⟨o 6, 0, none⟩) s.on.length (s.on.length + 3), iv s.miss] 30 false false) = H5 at *
 have lM : ldN 8 0 (H5.get h4.next) = some v1 := by rw [hv1]; exact J9E gM rfl
 have hL5 := hL.mono (h' := H5) (by omega) o5
 have g50 : H5.get 0 = J14 := by rw [o5 0 (by omega), o4 0 (by omega), m3 0 (by omega)]; exact hg3
 have hlp := t_k (n := n) (by decide) (k_laidP (n := n) hok hs hL5 hkl hl (by omega) g50 (by omega) (by omega))
 have hp5 : J3x h.next H5 (.agg #[.string (J52 l), vr, vq, vv, vt, vu, vo, iv s.miss]) (J52 l) s := hpH.mono (by omega) fun j _ hj => (o5 j (by omega)).trans (o4 j hj)
 have hld := t_k (n := n) (by decide) (k_laidD (n := n) hok hs hp5 hkl hl (by omega) (by omega))
 obtain ⟨h6, hkept, n6, f6, o6⟩ := k_kept7 (n := n) hL5 hpH (Nat.le_refl _) (fun j hj => (o5 j (by omega)).trans (o4 j hj)) (by omega) hsm (by omega) (by omega) (by omega)
 have hkept' := t_k (n := n) (by decide) hkept
 have lP5 : ldN 8 0 (H5.get h2.next) = some (.agg #[.string (J52 l), vr, vq, vv, vt, vu, vo, iv s.miss]) := by rw [o5 _ (by omega), o4 _ (by omega)]; exact lP1
 have w1 : IntKind.i64.wrap ((i : Int) + 1) = ((i + 1 : Nat) : Int) := J0s (by omega) (by omega)
 simp only [evC, seval, ↓evP, JcC, t0, t1, t5, t7, J1b, lM, lP5, hlp, hld, bne_self_eq_false, hkept', not_true, w1]
 exact ⟨by omega, by omega, by omega, by omega, fun j hj => by rw [o6 j (by omega), o5 j (by omega), o4 j (by omega)]; exact m3 j hj⟩
end
end Go.Proofs.YtipekdhneagdbaaDoor
namespace Go.Proofs.YtipekdhneagdbaaDoor
open Go Go.Sx Go.ChangeShapes Go.WideShapes Go.ChangeAt Go.RowKit
set_option maxRecDepth 100000
set_option linter.unusedSimpArgs false
set_option linter.unusedVariables false
section
variable {α : Type} {cells : α → List Value} {w : Nat} {l : List α}
theorem flat_len (hcl : ∀ x, (cells x).length = w) : (l.flatMap cells).length = l.length * w := by
 induction l with
 | nil => simp
 | cons x l ih =>
  rw [List.flatMap_cons, List.length_append, ih, hcl, List.length_cons, Nat.succ_mul]
  omega
theorem flat_ix (hcl : ∀ x, (cells x).length = w) : ∀ {l : List α} {i j : Nat} {x : α}, l[i]? = some x → j < w → (l.flatMap cells)[i * w + j]? = (cells x)[j]?
 | [], i, j, x, h, _ => by simp at h
 | y :: l, 0, j, x, h, hj => by
  cases h
  rw [List.flatMap_cons, Nat.zero_mul, Nat.zero_add, List.getElem?_append_left (by rw [hcl]; exact hj)]
 | y :: l, i + 1, j, x, h, hj => by
  have h' : l[i]? = some x := h
  rw [List.flatMap_cons, List.getElem?_append_right (by rw [hcl, Nat.succ_mul]; omega), hcl, ← flat_ix hcl h' hj]
  congr 1
  rw [Nat.succ_mul]
  omega
end
def SliceW (W : World) (v : Value) (n w : Nat) (cs : List Value) : Prop := cs.length = n * w ∧ ((n = 0 ∧ v = .slice none 0 0) ∨
 ∃ b off cap CS ty fr, v = .slice (some ⟨b, off, none⟩) n cap ∧ n ≤ cap ∧ cap < unk ∧ W.heap[b]? = some (.cells CS ty fr) ∧ ∀ k, k < n * w → CS[off + k]? = cs[k]?)
section
variable {H : Type} {enc : TypeId × Value → H} {W : World} {base b0 : Nat} {sp : Nat → Bool} {hd : Bool}
theorem slice_in {α : Type} {cells : α → List Value} {Q : α → Prop} {w : Nat} {t e : TypeId} (ht : Tryd.prog.underlying t = some (.slice e)) (hw : Tryd.prog.cellsOf e = w)
  (hopen : ∀ n cs y, DataW.trod enc Tryd.prog W base sp hd n e cs = some y → ∃ x, cs = cells x ∧ Q x) (hcl : ∀ x, (cells x).length = w) (hw0 : 0 < w)
  {v : Value} {n : Nat} {y : DataW H × List MemPlace} (hval : Cell.okWide Tryd.prog W .any b0 t v) (h : DataW.trod enc Tryd.prog W base sp hd n t [v] = some y) : ∃ l : List α, (∀ x ∈ l, Q x) ∧ SliceW W v l.length w (l.flatMap cells) := by
 rcases DataW.trod_slice ht h with ⟨h1, h2⟩ | ⟨a', len, cap, elems, rest, n', _, h1, _, hb, hl, hm, hlen, hel, _⟩
 ·cases h1
  exact ⟨[], fun x hx => (by cases hx), by simp, .inl ⟨rfl, rfl⟩⟩
 ·cases h1
  simp only [Cell.okWide, ht, Cell.ok] at hval
  obtain ⟨_, _, _, hsp, row, cells', hsh, _⟩ := hval
  obtain ⟨b, off, spot⟩ := a'
  simp only at hsp
  subst hsp
  have hblk : ∃ CS ty fr, W.heap[b]? = some (.cells CS ty fr) := by
   simp only [World.shape?] at hsh
   split at hsh
   ·rename_i CS ty fr hh; exact ⟨_, _, _, hh⟩
   ·cases hsh
  obtain ⟨CS, ty, fr, hblk⟩ := hblk
  have each : ∀ i, i < len → ∃ x : α, Q x ∧ ∀ j, j < w → CS[off + (i * w + j)]? = (cells x)[j]? := fun i hi => by
   have := hel i hi
   obtain ⟨y, hy⟩ : ∃ y, elems[i]? = some y := ⟨_, List.getElem?_eq_getElem (by omega)⟩
   rw [hy, J9W, hw, Option.bind_eq_some_iff] at this
   obtain ⟨cs, hcs, ht⟩ := this
   obtain ⟨x, rfl, hx⟩ := hopen _ _ _ ht
   obtain ⟨_, hc⟩ := Jen hcs
   refine ⟨x, hx, fun j hj => ?_⟩
   rw [← hc j hj, ← Nat.add_assoc]
   simp only [World.cell?, hblk, Option.isSome_none, Bool.false_eq_true, if_false]
  obtain ⟨l, hll, hl1⟩ : ∃ l : List α, l.length = len ∧ ∀ i x, l[i]? = some x → Q x ∧ ∀ j, j < w → CS[off + (i * w + j)]? = (cells x)[j]? := by
   have : ∀ m, m ≤ len → ∃ l : List α, l.length = m ∧ ∀ i x, l[i]? = some x → Q x ∧ ∀ j, j < w → CS[off + (i * w + j)]? = (cells x)[j]? := by
    intro m
    induction m with
    | zero => exact fun _ => ⟨[], rfl, fun i x h => by simp at h⟩
    | succ m ih =>
     intro hm
     obtain ⟨l, h1, h2⟩ := ih (by omega)
     obtain ⟨x, hx⟩ := each m (by omega)
     refine ⟨l ++ [x], by simp [h1], fun i y hy => ?_⟩
     rcases Nat.lt_or_ge i l.length with h3 | h3
     ·rw [List.getElem?_append_left h3] at hy
      exact h2 i y hy
     ·rw [List.getElem?_append_right h3] at hy
      have : i - l.length = 0 := by
       rcases Nat.eq_zero_or_pos (i - l.length) with h4 | h4
       ·exact h4
       ·rw [List.getElem?_eq_none (by simp; omega)] at hy
        cases hy
      rw [this] at hy
      cases hy
      have : i = m := by omega
      subst this
      exact hx
   exact this len (Nat.le_refl _)
  unfold maxLen at hm
  refine ⟨l, fun x hx => ?_, flat_len hcl, .inr ⟨b, off, cap, CS, ty, fr, by rw [hll], by omega, by unfold unk; omega, hblk, fun k hk => ?_⟩⟩
  ·obtain ⟨i, hi⟩ := List.getElem?_of_mem hx
   exact (hl1 i x hi).1
  ·have hdm := Nat.div_add_mod k w
   rw [Nat.mul_comm] at hdm
   have hj := Nat.mod_lt k hw0
   have hi : k / w < l.length := (Nat.div_lt_iff_lt_mul hw0).2 hk
   have hx := List.getElem?_eq_getElem hi
   rw [← hdm, (hl1 _ _ hx).2 _ hj, flat_ix hcl hx hj]
end
structure Piece where
 v : Value
 n : Nat
 w : Nat
 cs : List Value
 ty : TypeId
noncomputable def heapFrom : SHeap → List Piece → SHeap
 | h, [] => h
 | h, p :: ps => heapFrom (h.push (.row p.cs p.ty false true)) ps
theorem heapFrom_next : ∀ (ps : List Piece) (h : SHeap), (heapFrom h ps).next = h.next + ps.length ∧ (heapFrom h ps).floor = h.floor ∧ ∀ i, i < h.next → (heapFrom h ps).get i = h.get i
 | [], h => ⟨rfl, rfl, fun _ _ => rfl⟩
 | p :: ps, h => by
  obtain ⟨h1, h2, h3⟩ := heapFrom_next ps (h.push (.row p.cs p.ty false true))
  rw [J1D] at h1 h3
  refine ⟨by show (heapFrom _ ps).next = _; rw [h1, List.length_cons]; omega, h2, fun i hi => ?_⟩
  show (heapFrom _ ps).get i = _
  rw [h3 i (by omega), J06 hi]
theorem heapFrom_get : ∀ {ps : List Piece} {h : SHeap} {i : Nat} {p : Piece}, ps[i]? = some p → (heapFrom h ps).get (h.next + i) = .row p.cs p.ty false true
 | [], h, i, p, hp => by simp at hp
 | q :: ps, h, 0, p, hp => by
  cases hp
  show (heapFrom _ ps).get h.next = _
  rw [(heapFrom_next ps _).2.2 _ (by rw [J1D]; omega), J0h]
 | q :: ps, h, i + 1, p, hp => by
  have := heapFrom_get (ps := ps) (h := h.push (.row q.cs q.ty false true)) (i := i) (p := p) hp
  rw [J1D] at this
  show (heapFrom _ ps).get (h.next + (i + 1)) = _
  rw [← this]
  congr 1
  omega
def locP (p : Piece) : Go.Sx.Loc := match p.v with
 | .slice (some a) _ _ => ⟨a.block, a.off, 0, 0⟩
 | _ => ⟨0, 0, 0, 0⟩
def mapL (ps : List Piece) : Map := fun i => if i = 0 then some ⟨0, 0, 0, 0⟩ else (ps[i - 1]?).map locP
def svP (i : Nat) (p : Piece) : Value := match p.v with
 | .slice (some _) n c => .slice (some ⟨i, 0, none⟩) n c
 | v => v
theorem mapL_get {ps : List Piece} {i : Nat} {p : Piece} (h : ps[i]? = some p) : mapL ps (i + 1) = some (locP p) := by
 unfold mapL
 rw [if_neg (by omega), Nat.add_sub_cancel, h]
 rfl
theorem relL {W : World} (h : laidMetH Tryd.prog [("winnow/lex.words", Rows.laid_winnow_lex_words)] W) {ps : List Piece} (hps : ∀ p ∈ ps, SliceW W p.v p.n p.w p.cs ∧ ∀ v ∈ p.cs, J1i v = true) :
  Rel Tryd.prog (mapL ps) (heapFrom Jfv ps) W ∧ (∀ i, ¬ wr ((heapFrom Jfv ps).get i)) ∧ (heapFrom Jfv ps).next = ps.length + 1 ∧ (heapFrom Jfv ps).floor = 0 ∧ (heapFrom Jfv ps).get 0 = J14 ∧
   ∀ (i : Nat) p, ps[i]? = some p → vrel (mapL ps) (svP (i + 1) p) p.v ∧ J0p 0 (heapFrom Jfv ps) (svP (i + 1) p) p.n p.w p.cs := by
 obtain ⟨hn, hf, ho⟩ := heapFrom_next ps Jfv
 have h01 : Jfv.next = 1 := rfl
 rw [h01] at hn ho
 obtain ⟨CS0, ty0, fr0, hb0, hcs0⟩ := J5Q (zs := J2D) (rest := []) JfI J7e Tryd.underlying145 Tryd.underlying9 JfP J7w h
 have hget : ∀ (i : Nat) p, ps[i]? = some p → (heapFrom Jfv ps).get (i + 1) = .row p.cs p.ty false true := fun i p hp => by
  have := heapFrom_get (h := Jfv) hp
  rw [h01, Nat.add_comm] at this
  exact this
 have hro := Jcz (P := Tryd.prog) (W := W) (ρ := mapL ps) (h := heapFrom Jfv ps) rfl (fun i hi => by
   unfold mapL
   rw [if_neg (by omega), List.getElem?_eq_none (by omega)]
   rfl) (fun g hg => by
   rw [Jg1] at hg
   obtain rfl : g = 0 := by omega
   exact ⟨_, rfl, rfl, rfl⟩) (fun i hi => by
   rw [hn] at hi
   cases i with
   | zero =>
    refine ⟨J5v, 9, false, ⟨0, 0, 0, 0⟩, CS0, ty0, fr0, (ho 0 (by omega)).trans rfl, rfl, hb0, fun k v hv => ⟨v, ?_, ?_⟩⟩
    ·have : CS0.toList[k]? = some v := by rw [hcs0]; exact hv
     simpa using this
    ·have hm : v ∈ J5v := List.mem_of_getElem? hv
     obtain ⟨z, _, rfl⟩ := List.mem_map.1 hm
     exact .flat rfl
   | succ i =>
    obtain ⟨p, hp⟩ : ∃ p, ps[i]? = some p := ⟨_, List.getElem?_eq_getElem (by omega)⟩
    obtain ⟨⟨hl, hor⟩, hfl⟩ := hps p (List.mem_of_getElem? hp)
    rcases hor with ⟨h0, hv⟩ | ⟨b, off, cap, CS, ty, fr, hv, h1, h2, h3, h4⟩
    ·refine ⟨p.cs, p.ty, false, locP p, CS0, ty0, fr0, hget i p hp, mapL_get hp, by unfold locP; rw [hv]; exact hb0, fun k v hk => ?_⟩
     have := (List.getElem?_eq_some_iff.1 hk).1
     rw [hl, h0, Nat.zero_mul] at this
     omega
    ·refine ⟨p.cs, p.ty, false, locP p, CS, ty, fr, hget i p hp, mapL_get hp, by unfold locP; rw [hv]; exact h3, fun k v hk => ⟨v, ?_, .flat (hfl v (List.mem_of_getElem? hk))⟩⟩
     have hkl := (List.getElem?_eq_some_iff.1 hk).1
     have e : (locP p).d = off := by unfold locP; rw [hv]
     rw [e, h4 k (by omega)]
     exact hk)
 refine ⟨hro.1, hro.2, by omega, hf, (ho 0 (by omega)).trans rfl, fun i p hp => ?_⟩
 obtain ⟨⟨hl, hor⟩, hfl⟩ := hps p (List.mem_of_getElem? hp)
 have hil := (List.getElem?_eq_some_iff.1 hp).1
 rcases hor with ⟨h0, hv⟩ | ⟨b, off, cap, CS, ty, fr, hv, h1, h2, h3, h4⟩
 ·have e : svP (i + 1) p = .slice none 0 0 := by unfold svP; rw [hv]
  have ecs : p.cs = [] := List.length_eq_zero_iff.1 (by rw [hl, h0, Nat.zero_mul])
  rw [e, hv, ecs, h0]
  exact ⟨.flat rfl, J0p.nil _ _ _⟩
 ·have e : svP (i + 1) p = .slice (some ⟨i + 1, 0, none⟩) p.n cap := by unfold svP; rw [hv]
  have eL : locP p = ⟨b, off, 0, 0⟩ := by unfold locP; rw [hv]
  rw [e]
  refine ⟨?_, J0p.rowR (ex := []) (by rw [List.append_nil]; exact hget i p hp) ⟨Nat.zero_le _, by omega⟩ hl fun h => absurd h (Nat.lt_irrefl 0)⟩
  rw [hv]
  exact vrel.slice (L := ⟨b, off, 0, 0⟩) (by rw [mapL_get hp, eL]) h2
theorem ints_flat (l : List Int) : l.flatMap (fun x => [iv x]) = ints l := by
 induction l with
 | nil => rfl
 | cons x l ih => rw [List.flatMap_cons, ih]; rfl
section
variable {H : Type} {enc : TypeId × Value → H} {W : World} {base b0 : Nat} {sp : Nat → Bool} {hd : Bool}
theorem open_int {n : Nat} {cs : List Value} {y : DataW H × List MemPlace} (h : DataW.trod enc Tryd.prog W base sp hd n 3 cs = some y) : ∃ x : Int, cs = [iv x] ∧ (-9223372036854775808 ≤ x ∧ x ≤ 9223372036854775807) := by
 obtain ⟨a, ha, _, wa⟩ := DataW.trod_int Tryd.underlying3 h
 exact ⟨a, ha, bounds_i64 wa⟩
end
section
variable {H : Type} {enc : TypeId × Value → H} {W : World} {base b0 : Nat} {sp : Nat → Bool} {hd : Bool} {v : Value} {d : DataW H} {p : List MemPlace}
theorem rows_in2 (hval : Value.okWide Tryd.prog W .any b0 22 v) (h : DataW.Trod enc Tryd.prog W base sp hd 22 v d p) : ∃ l : List RowN, (∀ x ∈ l, Jd7 x) ∧ SliceW W v l.length 5 (l.flatMap J0e) := by
 obtain ⟨a, len, cap, rfl⟩ := okWide_slice Tryd.underlying22 hval
 obtain ⟨fuel, hf⟩ := h
 have hc : Cell.okWide Tryd.prog W .any b0 22 (.slice a len cap) := by simpa only [Value.okWide, Tryd.underlying22] using hval
 exact slice_in Tryd.underlying22 J9Y (fun n cs y h => JcH h) (fun _ => rfl) (by decide) hc hf
theorem ints_in2 (hval : Value.okWide Tryd.prog W .any b0 28 v) (h : DataW.Trod enc Tryd.prog W base sp hd 28 v d p) : ∃ l : List Int, SliceW W v l.length 1 (ints l) := by
 obtain ⟨a, len, cap, rfl⟩ := okWide_slice Tryd.underlying28 hval
 obtain ⟨fuel, hf⟩ := h
 have hc : Cell.okWide Tryd.prog W .any b0 28 (.slice a len cap) := by simpa only [Value.okWide, Tryd.underlying28] using hval
 obtain ⟨l, _, hl⟩ := slice_in (cells := fun x : Int => [iv x]) Tryd.underlying28 Jag (fun n cs y h => open_int h) (fun _ => rfl) (by decide) hc hf
 rw [ints_flat] at hl
 exact ⟨l, hl⟩
end
theorem relRI {W : World} (h : laidMetH Tryd.prog [("winnow/lex.words", Rows.laid_winnow_lex_words)] W) {v w : Value} {l : List RowN} {A : List Int} (hv : SliceW W v l.length 5 (l.flatMap J0e)) (hw : SliceW W w A.length 1 (ints A)) :
  ∃ hp ρ sv sw, Rel Tryd.prog ρ hp W ∧ (∀ i, ¬ wr (hp.get i)) ∧ vrel ρ sv v ∧ vrel ρ sw w ∧ J0l hp sv l ∧ J1S 0 hp sw A ∧ hp.floor = 0 ∧ hp.get 0 = J14 ∧ 0 < hp.next := by
 have hR := relL h (ps := [⟨v, _, _, _, 46⟩, ⟨w, _, _, _, 3⟩]) (fun p hp => by
  simp only [List.mem_cons, List.not_mem_nil, or_false] at hp
  rcases hp with rfl | rfl
  ·refine ⟨hv, fun v hv => ?_⟩
   obtain ⟨x, _, hx⟩ := List.mem_flatMap.1 hv
   obtain ⟨j, hj⟩ := List.getElem?_of_mem hx
   exact J7Q hj
  ·refine ⟨hw, fun v hv => ?_⟩
   obtain ⟨x, _, rfl⟩ := List.mem_map.1 hv
   rfl)
 obtain ⟨r1, r2, r3, r4, r5, r6⟩ := hR
 obtain ⟨a0, b0⟩ := r6 0 _ rfl
 obtain ⟨a1, b1⟩ := r6 1 _ rfl
 exact ⟨_, _, _, _, r1, r2, a0, a1, (J3P.of b0).1, b1, r4, r5, by omega⟩
end Go.Proofs.YtipekdhneagdbaaDoor
