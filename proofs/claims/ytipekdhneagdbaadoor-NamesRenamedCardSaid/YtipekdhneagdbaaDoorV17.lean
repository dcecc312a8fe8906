/- Part 17 of what the claim leans on: 1 texts laid one behind another. -/
import Derived.Test.YtipekdhneagdbaaDoorV16
namespace Go.Proofs.YtipekdhneagdbaaDoor
open Go Go.Sx
set_option maxRecDepth 100000
set_option linter.unusedSimpArgs false
set_option linter.unusedVariables false
def curN (l : List RowN) (w : ByteArray) (x : RowN) (k : Nat) : RowN := if ((l.take k).any fun y => matchB y x) = true then { x with name := newN l w x.name } else x
def tgtN (l : List RowN) (w : ByteArray) (x : RowN) : RowN := curN l w x l.length
theorem match_iff {l : List RowN} {x : RowN} : ((l.take l.length).any fun y => matchB y x) = true ↔ saysK x.kind ≠ 0 ∧ DeclA l x.name := by
 rw [List.take_length, List.any_eq_true]
 constructor
 ·rintro ⟨y, hy, hm⟩
  unfold matchB at hm
  simp only [Bool.and_eq_true, Bool.or_eq_true, bne_iff_ne, ne_eq] at hm
  obtain ⟨h1, h2, h3⟩ := hm
  refine ⟨fun h9 => ?_, y, hy, h1, J3o h2⟩
  obtain ⟨a, b⟩ := saysK_0 h9
  rcases h3 with h3 | h3
  ·exact h3 a
  ·exact h3 b
 ·rintro ⟨h1, y, hy, h2, h3⟩
  refine ⟨y, hy, ?_⟩
  unfold matchB
  simp only [Bool.and_eq_true, Bool.or_eq_true, bne_iff_ne, ne_eq]
  refine ⟨h2, by rw [h3]; exact J34 _, ?_⟩
  by_cases h4 : J1O x.kind = 0
  ·exact .inr fun h5 => h1 (by unfold saysK; omega)
  ·exact .inl h4
theorem cur_succ {l : List RowN} {w : ByteArray} {x y : RowN} {k : Nat} (hy : l[k]? = some y) : curN l w x (k + 1) = if matchB y x = true then { x with name := newN l w x.name } else curN l w x k := by
 unfold curN
 rw [List.take_add_one, hy, List.any_append]
 simp only [Option.toList_some, List.any_cons, List.any_nil, Bool.or_false]
 cases h1 : (l.take k).any fun y => matchB y x <;> cases h2 : matchB y x <;> simp
theorem cur_noName {l : List RowN} {w : ByteArray} {x : RowN} {k : Nat} : noName (curN l w x k) = noName x := by
 unfold curN
 split <;> rfl
theorem ren_tgt {l : List RowN} {w : ByteArray} (hl : l.length < 1000) (hst : ∀ (j : Nat) x, l[j]? = some x → saysK x.kind ≠ 0 → DeclA l x.name → standN l (newN l w x.name) = false) : Ren (newN l w) l (l.map (tgtN l w)) where
 shape := by
  rw [List.map_map]
  exact List.map_congr_left fun x _ => cur_noName
 new := fun i x y hx hy h1 h2 => by
  rw [List.getElem?_map, hx] at hy
  cases hy
  unfold tgtN curN
  rw [if_pos (match_iff.2 ⟨h1, h2⟩)]
 old := fun i x y hx hy h1 => by
  rw [List.getElem?_map, hx] at hy
  cases hy
  unfold tgtN curN
  rw [if_neg fun h9 => h1 (match_iff.1 h9).2]
 inj := fun a b ha hb h => new_inj hl ha hb h
 out := fun a x ha hx => by
  obtain ⟨y, hy, h1, rfl⟩ := ha
  obtain ⟨j, hj⟩ := List.getElem?_of_mem hy
  exact stands_iff (hst j y hj (fun h9 => h1 (saysK_0 h9).2) ⟨y, hy, h1, rfl⟩) x hx
theorem set_name {L : List RowN} {i : Nat} {x : RowN} {nm : ByteArray} (hx : L[i]? = some x) : (L.flatMap J0e).set (i * 5 + 1) (.string nm) = (L.set i { x with name := nm }).flatMap J0e := by
 have hi := (List.getElem?_eq_some_iff.1 hx).1
 have h1 : Go.Sx.lay (L.flatMap J0e) (i * 5) (J0e { x with name := nm }) = (L.set i { x with name := nm }).flatMap J0e := Jgo hi
 rw [← h1]
 apply List.ext_getElem?
 intro j
 have hl5 : (J0e { x with name := nm }).length = 5 := rfl
 have hlen := J0N L
 rw [J5E (by rw [hl5, hlen]; omega), List.getElem?_set, hl5, hlen]
 have hc : ∀ q, q < 5 → (L.flatMap J0e)[i * 5 + q]? = (J0e x)[q]? := fun q hq => by
  have := J2Y hx
  rw [← this, List.getElem?_take_of_lt hq, List.getElem?_drop]
 by_cases hj : i * 5 + 1 = j
 ·subst hj
  rw [if_pos rfl, if_pos (by omega), if_pos (by omega), show i * 5 + 1 - i * 5 = 1 by omega]
  rfl
 ·rw [if_neg hj]
  split
  ·rename_i h9
   obtain ⟨q, rfl⟩ : ∃ q, j = i * 5 + q := ⟨j - i * 5, by omega⟩
   rw [hc q (by omega), show i * 5 + q - i * 5 = q by omega]
   have hq : q = 0 ∨ q = 2 ∨ q = 3 ∨ q = 4 := by omega
   rcases hq with rfl | rfl | rfl | rfl <;> rfl
  ·rfl
theorem lent_rows' {h : SHeap} {o : Nat} {l L : List RowN} (hL : LentAt h o l L) (ho : o < h.next) : J0l h (.slice (some ⟨o, 0, none⟩) l.length (l.length + 9)) l := by
 refine ⟨_, _, rfl, .inr ⟨o, 0, _, _, _, _, rfl, hL.g, ho, fun k r hk => ?_⟩⟩
 have hkl := (List.getElem?_eq_some_iff.1 hk).1
 rw [Nat.zero_add]
 exact J2Y ((hL.own k hkl).trans hk)
section
variable {n : Nat} {h : SHeap}
set_option maxHeartbeats 64000000 in
theorem renamed_walk {l : List RowN} {v : Value} {w : ByteArray} (hv : J0l h v l) (hfl : h.floor ≤ h.next) (hg : h.get 0 = J14) (hn0 : 0 < h.next) (hn : 400000 < n) :
  ∃ h', J0L Tryd.prog (Jb4 n) n 8 [v, .string w] h = some (.bool true, h') ∧ True := by
 have hsn := (JaT n).2
 refine J1N (R := fun _ => True) Tryd.func8 rfl (by simp [Tryd.f8]) ?_
 have hr : Tryd.f8.results.toList = [.tmp 4] := rfl
 have hfar := t_k (by decide) (JiW (n := n) hv (by omega))
 have hhd := JfG (n := n) hg
 have hlen := fun h' => hv.len (h' := h')
 cases d : decide ((l.length : Int) > 65536) with
 | true =>
  rw [d] at hfar
  simp only [evC, seval, ↓evP, hr, hfar, hhd]
 | false =>
 rw [d] at hfar
 cases d1 : decide ((l.length : Int) > 400) with
 | true => simp only [evC, seval, ↓evP, hr, hfar, hlen, d1, hhd]
 | false =>
 cases d2 : decide ((w.data.toList.length : Int) > 20) with
 | true => simp only [evC, seval, ↓evP, hr, hfar, hlen, d1, len9, d2, hhd]
 | false =>
 have hl : l.length ≤ 400 := by have := of_decide_eq_false d1; omega
 have hwl : w.data.toList.length ≤ 20 := by have := of_decide_eq_false d2; omega
 clear d
 obtain ⟨h1, hlend, ⟨L, hL⟩, n1, f1, o1⟩ := Jic (n := n) hv (by omega) hfl (by omega)
 have hlend' := t_k (n := n) (by decide) hlend
 have hmine : J0l h1 (.slice (some ⟨h.next, 0, none⟩) l.length (l.length + 9)) l := lent_rows' hL (by omega)
 have hchk := t_k (n := n) (by decide) (JgM (n := n) (by omega) (by omega) hmine ((o1 0 hn0).trans hg) (by omega) (by omega))
 have zc33 : (J2k 0 0).cells.toList = [iv 0, iv 0] := rfl
 have zc30 : zPol.cells.toList = [.string ByteArray.empty, .slice none 0 0, .slice none 0 0, .slice none 0 0, .slice none 0 0, .slice none 0 0, .slice none 0 0, iv 0] := rfl
 have hst := stW (t := 33) sz33 (h := h1.push (.row [iv 0, iv 0] 33 false false)) (vs := [iv (J0v l).1, iv (J0v l).2]) (J0h (h := h1)) rfl rfl rfl (by rw [J0i]; omega)
 simp only [evC, seval, ↓evP, hfar, hlen, d1, len9, d2, hlend', hchk, J3C, J1t, zc33, hst]
 have g2 : ((h1.push (.row [iv 0, iv 0] 33 false false)).put h1.next (.row [iv (J0v l).1, iv (J0v l).2] 33 false false)).get h1.next = .row [iv (J0v l).1, iv (J0v l).2] 33 false false := J0b rfl (by rw [J1D]; omega)
 have o2 : ∀ j, j < h1.next → ((h1.push (.row [iv 0, iv 0] 33 false false)).put h1.next (.row [iv (J0v l).1, iv (J0v l).2] 33 false false)).get j = h1.get j := fun j hj => by rw [J05 (by rw [J1D]; omega) (by omega), J06 hj]
 have n2 : ((h1.push (.row [iv 0, iv 0] 33 false false)).put h1.next (.row [iv (J0v l).1, iv (J0v l).2] 33 false false)).next = h1.next + 1 := rfl
 have f2 : ((h1.push (.row [iv 0, iv 0] 33 false false)).put h1.next (.row [iv (J0v l).1, iv (J0v l).2] 33 false false)).floor = h1.floor := rfl
 generalize (h1.push (.row [iv 0, iv 0] 33 false false)).put h1.next (.row [iv (J0v l).1, iv (J0v l).2] 33 false false) = h2 at *
 have lF : ld1 0 (h2.get h1.next) = some (iv (J0v l).1) := by rw [g2]; rfl
 have hhd2 := JfG (n := n) (h := h2) (by rw [o2 0 (by omega), o1 0 hn0]; exact hg)
 cases d3 : ((J0v l).1 != 0) with
 | true => simp only [evC, seval, ↓evP, hr, Nat.zero_add, J6a, J7G, lF, d3, hhd2]
 | false =>
 have hck : (J0v l).1 = 0 := by simpa using d3
 have hkinds := J9T (J5d hck)
 have hv2 : J0l h2 v l := hv.mono (by omega) fun j hj => (o2 j (by omega)).trans (o1 j hj)
 obtain ⟨h3, hlend3, ⟨L3, hL3⟩, n3, f3, o3⟩ := Jic (n := n) hv2 (by omega) (by omega) (by omega)
 have hlend3' := t_k (n := n) (by decide) hlend3
 simp only [evC, seval, ↓evP, Nat.zero_add, J6a, J7G, lF, d3, hlend3']
 have hg3 : h3.get 0 = J14 := by rw [o3 0 (by omega), o2 0 (by omega), o1 0 hn0]; exact hg
 have O3 : ∀ j, j < h2.next → h3.get j = h2.get j := o3
 refine WK.loop (fun i s' => s'.T.get 0 = v ∧ s'.T.get 1 = .string w ∧ s'.T.get 6 = .slice (some ⟨h2.next, 0, none⟩) l.length (l.length + 9) ∧ s'.T.get 7 = iv i ∧ i ≤ l.length ∧ s'.h.next = h3.next ∧ s'.h.floor = h3.floor ∧ (∀ j, j ≠ h2.next → s'.h.get j = h3.get j) ∧
  ∃ M : List RowN, s'.h.get h2.next = .row (M.flatMap J0e) 46 false false ∧ M.length = l.length + 9 ∧ (∀ j, j < i → M[j]? = (l[j]?).map (tgtN l w)) ∧ (∀ j, i ≤ j → j < l.length → M[j]? = l[j]?) ∧ ∀ (j : Nat) x, j < i → l[j]? = some x → saysK x.kind ≠ 0 → DeclA l x.name → standN l (newN l w x.name) = false) l.length (by omega) ?_ ?_
 ·exact ⟨by simp only [evC, seval, ↓evP, rpC], by simp only [evC, seval, ↓evP, rpC], by simp only [evC, seval, ↓evP, rpC], by simp only [evC, seval, ↓evP, rpC], by omega, rfl, rfl, fun _ _ => rfl, L3, hL3.g, hL3.len, fun j hj => by omega, fun j _ hj => hL3.own j hj, fun j x hj => by omega⟩
 rintro i ⟨T1, H1⟩ hi1 ⟨t0, t1, t6, t7, hil, m1, m2, m3, M, gM, lM, hM1, hM2, hM3⟩
 simp only at t0 t1 t6 t7 m1 m2 m3 gM
 by_cases hlt : i < l.length
 ·have c1 : decide ((i : Int) < (l.length : Int)) = true := by simp; omega
  obtain ⟨x, hx⟩ : ∃ x, l[i]? = some x := ⟨_, List.getElem?_eq_getElem hlt⟩
  have kx := hkinds i x hx
  have hxm : ∃ z ∈ l, z.name = x.name := ⟨x, List.mem_of_getElem? hx, rfl⟩
  simp only [evC, seval, ↓evP, t0, t1, t6, t7, hlen, c1]
  refine WK.loop (fun k s' => s'.T.get 0 = v ∧ s'.T.get 1 = .string w ∧ s'.T.get 6 = .slice (some ⟨h2.next, 0, none⟩) l.length (l.length + 9) ∧ s'.T.get 7 = iv i ∧ s'.T.get 8 = iv k ∧ k ≤ l.length ∧ s'.h.next = h3.next ∧ s'.h.floor = h3.floor ∧ (∀ j, j ≠ h2.next → s'.h.get j = h3.get j) ∧
   ∃ M' : List RowN, s'.h.get h2.next = .row (M'.flatMap J0e) 46 false false ∧ M'.length = l.length + 9 ∧ (∀ j, j ≠ i → M'[j]? = M[j]?) ∧ M'[i]? = some (curN l w x k) ∧ (((l.take k).any fun y => matchB y x) = true → standN l (newN l w x.name) = false)) l.length (by omega) ?_ ?_
  ·refine ⟨by simp only [evC, seval, ↓evP, rpC, t0], by simp only [evC, seval, ↓evP, rpC, t1], by simp only [evC, seval, ↓evP, rpC, t6], by simp only [evC, seval, ↓evP, rpC, t7], by simp only [evC, seval, ↓evP, rpC], by omega, m1, m2, m3, M, gM, lM, fun _ _ => rfl, ?_, fun h9 => by simp at h9⟩
   rw [hM2 i (Nat.le_refl _) hlt, hx]
   rfl
  rintro k ⟨T2, H2⟩ hk1 ⟨t0, t1, t6, t7, t8, hkl, p1, p2, p3, M', gM', lM', hN1, hN2, hN3⟩
  simp only at t0 t1 t6 t7 t8 p1 p2 p3 gM'
  by_cases hlt2 : k < l.length
  ·have c2 : decide ((k : Int) < (l.length : Int)) = true := by simp; omega
   obtain ⟨y, hy⟩ : ∃ y, l[k]? = some y := ⟨_, List.getElem?_eq_getElem hlt2⟩
   have hvH : J0l H2 v l := hv2.mono (by omega) fun j hj => (p3 j (by omega)).trans (o3 j hj)
   have w2 : IntKind.i64.wrap ((k : Int) + 1) = ((k + 1 : Nat) : Int) := J0s (by omega) (by omega)
   have hcs := cur_succ (w := w) (x := x) hy
   have hany : ((l.take (k + 1)).any fun y => matchB y x) = (((l.take k).any fun y => matchB y x) || matchB y x) := by
    rw [List.take_add_one, hy, List.any_append]
    simp only [Option.toList_some, List.any_cons, List.any_nil, Bool.or_false]
   simp only [evC, seval, ↓evP, t0, t1, t6, t7, t8, hlen, c2]
   refine ren_look (w := .string w) (m := .slice (some ⟨h2.next, 0, none⟩) l.length (l.length + 9)) hvH hx hy kx (hkinds k y hy) (by simp only [evC, seval, ↓evP, rpC, t0]) (by simp only [evC, seval, ↓evP, rpC, t1]) (by simp only [evC, seval, ↓evP, rpC, t6]) (by simp only [evC, seval, ↓evP, rpC, t7]) (by simp only [evC, seval, ↓evP, rpC, t8]) fun T3 t0 t1 t6 t7 t8 t87 => ?_
   cases hmb : matchB y x with
   | false =>
    rw [hmb] at t87 hcs hany
    rw [Bool.or_false] at hany
    simp only [evC, seval, ↓evP, t0, t1, t6, t7, t8, t87, w2]
    refine ⟨by omega, by omega, p1, p2, p3, M', gM', lM', hN1, ?_, ?_⟩
    ·rw [hcs, if_neg (by simp)]
     exact hN2
    ·rw [hany]
     exact hN3
   | true =>
    rw [hmb] at t87 hcs hany
    rw [if_pos rfl] at hcs
    obtain ⟨ix, px, ex, _, x0, x1, _⟩ := hvH.row hx
    have hfst := t_k (n := n) (by decide) (k_first (n := n) (nm := x.name) hvH (by omega) (by omega))
    have hfle := first_le (l := l) (nm := x.name)
    have hnum := t_k (n := n) (by decide) (k_numbered (n := n) (h := H2) (c := 110) (k := frstN l x.name 0) (by omega) (by omega))
    have hix := JaW (id := h2.next) (n := l.length) (c := l.length + 9) (i := i) hlt
    have hmo := hM2
    have hsto := stc (t := 9) (off := i * 5 + 1) (v := .string (newN l w x.name)) sz9 rfl rfl gM' (by rw [J0N]; omega) (by omega)
    rw [set_name hN2] at hsto
    have hcx : { curN l w x k with name := newN l w x.name } = { x with name := newN l w x.name } := by
     unfold curN
     split <;> rfl
    rw [hcx] at hsto
    have hnwd : newN l w x.name = barB ++ w ++ barB ++ numB 110 (frstN l x.name 0) := rfl
    rw [hnwd] at hsto
    have z1 : (barB.size : Int) + w.size ≤ 9223372036854775807 := by
     have : w.size = w.data.toList.length := by rw [Array.length_toList]; rfl
     have : barB.size = 1 := rfl
     omega
    have z2 : ((barB ++ w).size : Int) + barB.size ≤ 9223372036854775807 := by
     have : w.size = w.data.toList.length := by rw [Array.length_toList]; rfl
     have : barB.size = 1 := rfl
     have : (barB ++ w).size = barB.size + w.size := ByteArray.size_append
     omega
    have z3 : ((barB ++ w ++ barB).size : Int) + (numB 110 (frstN l x.name 0)).size ≤ 9223372036854775807 := by
     have : w.size = w.data.toList.length := by rw [Array.length_toList]; rfl
     have : barB.size = 1 := rfl
     have : (barB ++ w).size = barB.size + w.size := ByteArray.size_append
     have : (barB ++ w ++ barB).size = (barB ++ w).size + barB.size := ByteArray.size_append
     have : (numB 110 (frstN l x.name 0)).size = 4 := rfl
     omega
    have cat1 := bin_cat (P := Tryd.prog) (t := 9) (x := .const (.string barB)) (y := .tmp 90) z1
    have cat2 := bin_cat (P := Tryd.prog) (t := 9) (x := .tmp 91) (y := .const (.string barB)) z2
    have cat3 := bin_cat (P := Tryd.prog) (t := 9) (x := .tmp 92) (y := .tmp 100) z3
    simp only [evC, seval, ↓evP, t0, t1, t6, t7, t8, t87, Nat.zero_add, ex, J07, J0d, x1, hfst, hnum, cat1, cat2, cat3, hix, hsto]
    have q1 : (H2.put h2.next (.row ((M'.set i { x with name := barB ++ w ++ barB ++ numB 110 (frstN l x.name 0) }).flatMap J0e) 46 false false)).get h2.next = .row ((M'.set i { x with name := barB ++ w ++ barB ++ numB 110 (frstN l x.name 0) }).flatMap J0e) 46 false false := J0b rfl (by omega)
    have q2 : ∀ j, j ≠ h2.next → (H2.put h2.next (.row ((M'.set i { x with name := barB ++ w ++ barB ++ numB 110 (frstN l x.name 0) }).flatMap J0e) 46 false false)).get j = H2.get j := fun j hj => J05 (by omega) (Ne.symm hj)
    have q3 : (H2.put h2.next (.row ((M'.set i { x with name := barB ++ w ++ barB ++ numB 110 (frstN l x.name 0) }).flatMap J0e) 46 false false)).next = H2.next := rfl
    have q4 : (H2.put h2.next (.row ((M'.set i { x with name := barB ++ w ++ barB ++ numB 110 (frstN l x.name 0) }).flatMap J0e) 46 false false)).floor = H2.floor := rfl
    have q5 : (M'.set i { x with name := barB ++ w ++ barB ++ numB 110 (frstN l x.name 0) })[i]? = some { x with name := barB ++ w ++ barB ++ numB 110 (frstN l x.name 0) } := List.getElem?_set_self (by omega)
    have q6 : ∀ j, j ≠ i → (M'.set i { x with name := barB ++ w ++ barB ++ numB 110 (frstN l x.name 0) })[j]? = M'[j]? := fun j hj => List.getElem?_set_ne (Ne.symm hj)
    have q7 : (M'.set i { x with name := barB ++ w ++ barB ++ numB 110 (frstN l x.name 0) }).length = l.length + 9 := by rw [List.length_set]; exact lM'
    clear hsto
    generalize H2.put h2.next (.row ((M'.set i { x with name := barB ++ w ++ barB ++ numB 110 (frstN l x.name 0) }).flatMap J0e) 46 false false) = H3 at *
    generalize M'.set i { x with name := barB ++ w ++ barB ++ numB 110 (frstN l x.name 0) } = M2 at *
    have lM1 : ld1 (i * 5 + 1) (H3.get h2.next) = some (.string (newN l w x.name)) := by
     rw [q1]
     have := J2Y q5
     have h9 : (((M2.flatMap J0e).drop (i * 5)).take 5)[1]? = some (.string (newN l w x.name)) := by rw [this]; rfl
     rw [List.getElem?_take_of_lt (by decide), List.getElem?_drop] at h9
     exact h9
    have hvH3 : J0l H3 v l := hv2.mono (by omega) fun j hj => (q2 j (by omega)).trans ((p3 j (by omega)).trans (o3 j hj))
    have hstd := t_k (n := n) (by decide) (k_standB (n := n) (nm := newN l w x.name) hvH3 (by omega) (by omega))
    cases dst : standN l (newN l w x.name) with
    | true =>
     have hhd3 := JfG (n := n) (h := H3) (by rw [q2 0 (by omega), p3 0 (by omega)]; exact hg3)
     rw [dst] at hstd
     simp only [evC, seval, ↓evP, hr, t0, t1, t6, t7, t8, Nat.zero_add, hix, J07, J0d, lM1, hstd, hhd3]
    | false =>
     rw [dst] at hstd
     simp only [evC, seval, ↓evP, t0, t1, t6, t7, t8, Nat.zero_add, hix, J07, J0d, lM1, hstd, w2]
     refine ⟨by omega, by omega, by omega, by omega, fun j hj => (q2 j hj).trans (p3 j hj), M2, q1, q7, fun j hj => (q6 j hj).trans (hN1 j hj), ?_, fun _ => trivial⟩
     rw [q5, hcs]
     rfl
  ·have c2 : decide ((k : Int) < (l.length : Int)) = false := by simp; omega
   have : k = l.length := by omega
   subst this
   have w2 : IntKind.i64.wrap ((i : Int) + 1) = ((i + 1 : Nat) : Int) := J0s (by omega) (by omega)
   simp only [evC, seval, ↓evP, t0, t1, t6, t7, t8, hlen, c2, w2]
   refine ⟨by omega, by omega, p1, p2, p3, M', gM', lM', fun j hj => ?_, fun j hj1 hj2 => ?_, fun j z hj hz h8 h9 => ?_⟩
   ·by_cases hji : j = i
    ·subst hji
     rw [hN2, hx]
     rfl
    ·rw [hN1 j hji]
     exact hM1 j (by omega)
   ·rw [hN1 j (by omega)]
    exact hM2 j (by omega) hj2
   ·by_cases hji : j = i
    ·subst hji
     rw [hx] at hz
     cases hz
     exact hN3 (match_iff.2 ⟨h8, h9⟩)
    ·exact hM3 j z (by omega) hz h8 h9
 have c1 : decide ((i : Int) < (l.length : Int)) = false := by simp; omega
 have : i = l.length := by omega
 subst this
 have hren := ren_tgt (w := w) (by omega) fun j x hj => hM3 j x (List.getElem?_eq_some_iff.1 hj).1 hj
 have hml : (l.map (tgtN l w)).length = l.length := List.length_map ..
 generalize hmm : l.map (tgtN l w) = m at *
 have hvm : J0l H1 (.slice (some ⟨h2.next, 0, none⟩) l.length (l.length + 9)) m := by
  refine ⟨_, _, by rw [hml], .inr ⟨h2.next, 0, _, _, _, _, rfl, gM, by omega, fun k r hk => ?_⟩⟩
  have hkl := (List.getElem?_eq_some_iff.1 hk).1
  rw [Nat.zero_add]
  exact J2Y (by rw [hM1 k (by omega), ← List.getElem?_map, hmm]; exact hk)
 have hg1 : H1.get 0 = J14 := by rw [m3 0 (by omega)]; exact hg3
 have hchk2 := t_k (n := n) (by decide) (JgM (n := n) (by omega) (by omega) hvm hg1 (by omega) (by omega))
 have hst2 := stW (t := 33) sz33 (h := H1.push (.row [iv 0, iv 0] 33 false false)) (vs := [iv (J0v m).1, iv (J0v m).2]) (J0h (h := H1)) rfl rfl rfl (by rw [J0i]; omega)
 simp only [evC, seval, ↓evP, t0, t1, t6, t7, hlen, c1, hchk2, J3C, J1t, zc33, hst2]
 have g4 : ((H1.push (.row [iv 0, iv 0] 33 false false)).put H1.next (.row [iv (J0v m).1, iv (J0v m).2] 33 false false)).get H1.next = .row [iv (J0v m).1, iv (J0v m).2] 33 false false := J0b rfl (by rw [J1D]; omega)
 have o4 : ∀ j, j < H1.next → ((H1.push (.row [iv 0, iv 0] 33 false false)).put H1.next (.row [iv (J0v m).1, iv (J0v m).2] 33 false false)).get j = H1.get j := fun j hj => by rw [J05 (by rw [J1D]; omega) (by omega), J06 hj]
 have n4 : ((H1.push (.row [iv 0, iv 0] 33 false false)).put H1.next (.row [iv (J0v m).1, iv (J0v m).2] 33 false false)).next = H1.next + 1 := rfl
 have f4 : ((H1.push (.row [iv 0, iv 0] 33 false false)).put H1.next (.row [iv (J0v m).1, iv (J0v m).2] 33 false false)).floor = H1.floor := rfl
 generalize (H1.push (.row [iv 0, iv 0] 33 false false)).put H1.next (.row [iv (J0v m).1, iv (J0v m).2] 33 false false) = h4 at *
 have lF4 : ld1 0 (h4.get H1.next) = some (iv (J0v m).1) := by rw [g4]; rfl
 have hg4 : h4.get 0 = J14 := by rw [o4 0 (by omega)]; exact hg1
 have hhd4 := JfG (n := n) hg4
 cases d4 : ((J0v m).1 != 0) with
 | true => simp only [evC, seval, ↓evP, hr, Nat.zero_add, J6a, J7G, lF4, d4, hhd4]
 | false =>
 have hck2 : (J0v m).1 = 0 := by simpa using d4
 obtain ⟨r1, r2, r3, r4, r5, r6, r7, r8⟩ := res_ren hren (by omega) hck hck2
 have hold : ∀ j, j < h2.next → h4.get j = h2.get j := fun j hj => (o4 j (by omega)).trans ((m3 j (by omega)).trans (o3 j hj))
 have hv4 : J0l h4 v l := hv2.mono (by omega) hold
 obtain ⟨h5, hlend5, ⟨L5, hL5⟩, n5, f5, o5⟩ := Jic (n := n) hv4 (by omega) (by omega) (by omega)
 have hlend5' := t_k (n := n) (by decide) hlend5
 obtain ⟨v6, h6, hres6, pv, rfl, hp, f6, n6, o6⟩ := Jia (n := n) (h := h5) (by omega) ((o5 0 (by omega)).trans hg4) (by omega) (lent_rows' hL5 (by omega)) (by omega) (by omega)
 have hres6' := t_k (n := n) (by decide) hres6
 have hsmP := (JdR (l := l) (by omega)).1
 have hsmQ := (JdR (l := m) (by omega)).1
 have htotP := (JdR (l := l) (by omega)).2
 rw [← r1] at hres6'
 generalize hsp : outN l = sp at *
 obtain ⟨nmp, s⟩ := sp
 simp only at hp r2 r3 r4 r5 r6 r7 r8 hsmP htotP
 obtain ⟨vr, vq, vv, vt, vu, vo, rfl, p1, p2, p3, p4, p5, p6⟩ := hp
 have oa := all8 (nm := nmp) p1 p2 p3 p4 p5 p6
 obtain ⟨⟨hc7, h7⟩, s1, s2, rO, n7, f7, o7⟩ := laid_out (H := h6) (cs := [.string nmp, vr, vq, vv, vt, vu, vo, iv s.miss]) (e := (resN m).1.1) (p := (resN m).1.2) rfl oa (by omega)
 simp only at s1 s2 rO n7 f7 o7
 have hvm7 : J0l h7 (.slice (some ⟨h2.next, 0, none⟩) l.length (l.length + 9)) m := hvm.mono (by omega) fun j hj => (o7 j (by omega)).trans ((o6 j (by omega)).trans ((o5 j (by omega)).trans (o4 j hj)))
 have hg7 : h7.get 0 = J14 := by rw [o7 0 (by omega), o6 0 (by omega), o5 0 (by omega)]; exact hg4
 obtain ⟨v8, h8, hres8, qv, rfl, hq, f8, n8, o8⟩ := Jia (n := n) (h := h7) (by omega) hg7 (by omega) hvm7 (by omega) (by omega)
 have hres8' := t_k (n := n) (by decide) hres8
 generalize hsq : outN m = sq at *
 obtain ⟨nmq, s'⟩ := sq
 simp only at hq r2 r3 r4 r5 r6 r7 r8 hsmQ
 obtain ⟨wr, wq, wv, wt, wu, wo, rfl, u1, u2, u3, u4, u5, u6⟩ := hq
 have ob := all8 (nm := nmq) u1 u2 u3 u4 u5 u6
 obtain ⟨⟨hc9, h9⟩, s3, s4, rQ, n9, f9, o9⟩ := laid_out (H := h8) (cs := [.string nmq, wr, wq, wv, wt, wu, wo, iv s'.miss]) (e := (resN m).1.1) (p := (resN m).1.2) rfl ob (by omega)
 simp only at s3 s4 rQ n9 f9 o9
 have hAP : h9.get h6.next = .row [.string nmp, vr, vq, vv, vt, vu, vo, iv s.miss] 30 false false := by rw [o9 _ (by omega), o8 _ (by omega)]; exact rO.1
 have hAF : h9.get (h6.next + 1) = .row [iv (resN m).1.1, iv (resN m).1.2] 33 false false := by rw [o9 _ (by omega), o8 _ (by omega)]; exact rO.2
 obtain ⟨x0, x1, x2, x3, x4, x5, x6, x7⟩ := Jhw (a := .string nmp) (b := vr) (c := vq) (d := vv) (e := vt) (f := vu) (g := vo) (i := iv s.miss) (ty := 30) (x := false) (y := false)
 rw [← hAP] at x0 x1 x2 x3 x4 x5 x6 x7
 obtain ⟨y0, y1, y2, y3, y4, y5, y6, y7⟩ := Jhw (a := .string nmq) (b := wr) (c := wq) (d := wv) (e := wt) (f := wu) (g := wo) (i := iv s'.miss) (ty := 30) (x := false) (y := false)
 rw [← rQ.1] at y0 y1 y2 y3 y4 y5 y6 y7
 have lF1 : ldN 2 0 (h9.get (h6.next + 1)) = some (J2k (resN m).1.1 (resN m).1.2) := by rw [hAF]; rfl
 have lF2 : ldN 2 0 (h9.get (h8.next + 1)) = some (J2k (resN m).1.1 (resN m).1.2) := by rw [rQ.2]; rfl
 have hrl : s'.rows.length = s.rows.length := by simpa using congrArg List.length r2
 have OP : ∀ j, j < h6.next → h9.get j = h6.get j := fun j hj => (o9 j (by omega)).trans ((o8 j (by omega)).trans (o7 j hj))
 have plen1 := fun h' => JfA p1.2 h'
 have plen2 := fun h' => JfC p2 h'
 have plen3 := fun h' => JfT p3 h'
 have plen4 := fun h' => JfT p4 h'
 have qlen1 := fun h' => JfA u1.2 h'
 have qlen2 := fun h' => JfC u2 h'
 have qlen3 := fun h' => JfT u3 h'
 have qlen4 := fun h' => JfT u4 h'
 have zz : (!((resN m).1.1 == (resN m).1.1 && (resN m).1.2 == (resN m).1.2)) = false := by simp
 have zr : ((s.rows.length : Int) != (s'.rows.length : Int)) = false := by rw [hrl]; simp
 have zq : ((s.queues.length : Int) != (s'.queues.length : Int)) = false := by rw [r3]; simp
 have zv : ((s.vars.length : Int) != (s'.vars.length : Int)) = false := by rw [r4]; simp
 have zt : ((s.tags.length : Int) != (s'.tags.length : Int)) = false := by rw [r5]; simp
 simp only [evC, seval, ↓evP, t0, t1, t6, t7, Nat.zero_add, J6a, J7G, lF4, d4, hlend5', hres6', J5F, J3Y, zc30, J3C, J1t, zc33, J1D, s1, s2, hres8', s3, s4, J2n, lF1, lF2, neq33, zz, BEq.rfl, Bool.and_self, Bool.not_true, Bool.false_eq_true, J0y, J0B, J1A, J1B, J0F, J0S, J0Y, x1, x2, x3, x4, y1, y2, y3, y4, plen1, plen2, plen3, plen4, qlen1, qlen2, qlen3, qlen4, zr, zq, zv, zt]
 have hsl1 : s.rows.length < 1000000000 := hsmP.1
 have hsl2 : s.rows.length ≤ l.length + 200 := by unfold Jbg at htotP; omega
 refine WK.loop (fun i s'' => s''.T.get 10 = .pointer (some ⟨h6.next, 0, none⟩) ∧ s''.T.get 12 = .pointer (some ⟨h8.next, 0, none⟩) ∧ s''.T.get 14 = iv i ∧ i ≤ s.rows.length ∧ h9.next ≤ s''.h.next ∧ s''.h.floor = h9.floor ∧ ∀ j, j < h9.next → s''.h.get j = h9.get j) s.rows.length (by omega) ?_ ?_
 ·exact ⟨by simp only [evC, seval, ↓evP, rpC], by simp only [evC, seval, ↓evP, rpC], by simp only [evC, seval, ↓evP, rpC], by omega, Nat.le_refl _, rfl, fun _ _ => rfl⟩
 rintro i ⟨T2, G1⟩ hi2 ⟨t10, t12, t14, hil2, k1, k2, k3⟩
 simp only at t10 t12 t14 k1 k2 k3
 have gP : G1.get h6.next = h9.get h6.next := k3 _ (by omega)
 have gQ : G1.get h8.next = h9.get h8.next := k3 _ (by omega)
 by_cases hlt : i < s.rows.length
 ·have c2 : decide ((i : Int) < (s.rows.length : Int)) = true := by simp; omega
  obtain ⟨x, hx⟩ : ∃ x, s.rows[i]? = some x := ⟨_, List.getElem?_eq_getElem hlt⟩
  obtain ⟨y, hy⟩ : ∃ y, s'.rows[i]? = some y := ⟨_, List.getElem?_eq_getElem (by omega)⟩
  have hxy : noName y = noName x := by
   have : (s'.rows.map noName)[i]? = (s.rows.map noName)[i]? := by rw [r2]
   rw [List.getElem?_map, List.getElem?_map, hx, hy] at this
   exact Option.some.inj this
  have hyx : { y with name := x.name } = x := by
   cases x; cases y
   simp only [noName, RowN.mk.injEq] at hxy ⊢
   obtain ⟨e1, _, e2, e3, e4⟩ := hxy
   exact ⟨e1, trivial, e2, e3, e4⟩
  obtain ⟨ix, px, ex, _, _, lx1, _, _, _, lx⟩ := (p1.1.mono (h' := G1) (by omega) fun j hj => (k3 j (by omega)).trans (OP j hj)).row hx
  obtain ⟨iy, py, ey, _, _, _, _, _, _, ly⟩ := (u1.1.mono (h' := G1) (by omega) fun j hj => (k3 j (by omega)).trans (o9 j hj)).row hy
  have ly' : ldN 5 py (G1.get iy) = some (rowV y) := ly
  have hz : flat (.agg #[.int .i64 0, .string ByteArray.empty, .int .i64 0, .int .i64 0, .int .i64 0]) = true := rfl
  have hzc : (Value.agg #[.int .i64 0, .string ByteArray.empty, .int .i64 0, .int .i64 0, .int .i64 0]).cells.toList = J0e zRow := rfl
  have hst : J0K Tryd.prog (G1.push (.row (J0e zRow) 46 false false)) 46 (.pointer (some ⟨G1.next, 0, none⟩)) (rowV y) = some ((G1.push (.row (J0e zRow) 46 false false)).put G1.next (.row (J0e y) 46 false false)) := JaU (i := 0) (off := 0) (L := [zRow]) rfl J0h (by decide) (by rw [J0i]; omega)
  simp only [evC, seval, ↓evP, Nat.zero_add, t10, t12, t14, J0y, J0F, gP, gQ, x1, y1, plen1, c2, ey, J0u, ly', J40, hz, hzc, hst]
  have gN : ((G1.push (.row (J0e zRow) 46 false false)).put G1.next (.row (J0e y) 46 false false)).get G1.next = .row (J0e y) 46 false false := J0b rfl (by rw [J1D]; omega)
  have gO : ∀ j, j < G1.next → ((G1.push (.row (J0e zRow) 46 false false)).put G1.next (.row (J0e y) 46 false false)).get j = G1.get j := fun j hj => by rw [J05 (by rw [J1D]; omega) (by omega), J06 hj]
  have nG : ((G1.push (.row (J0e zRow) 46 false false)).put G1.next (.row (J0e y) 46 false false)).next = G1.next + 1 := rfl
  have fG : ((G1.push (.row (J0e zRow) 46 false false)).put G1.next (.row (J0e y) 46 false false)).floor = G1.floor := rfl
  generalize (G1.push (.row (J0e zRow) 46 false false)).put G1.next (.row (J0e y) 46 false false) = G2 at *
  have gP2 : G2.get h6.next = h9.get h6.next := (gO _ (by omega)).trans gP
  obtain ⟨ix, px, ex, hix2, _, lx1, _, _, _, lx⟩ := (p1.1.mono (h' := G2) (by omega) fun j hj => (gO j (by omega)).trans ((k3 j (by omega)).trans (OP j hj))).row hx
  have hst2 := stc (t := 9) (off := 1) (v := .string x.name) sz9 rfl rfl gN (by show 1 < 5; omega) (by omega)
  have hset : (J0e y).set 1 (.string x.name) = J0e x := by rw [← hyx]; rfl
  rw [hset] at hst2
  simp only [evC, seval, ↓evP, Nat.zero_add, t10, t12, t14, J0y, J0F, gP2, x1, ex, J07, J0d, lx1, hst2]
  have gN3 : (G2.put G1.next (.row (J0e x) 46 false false)).get G1.next = .row (J0e x) 46 false false := J0b rfl (by omega)
  have gO3 : ∀ j, j < G1.next → (G2.put G1.next (.row (J0e x) 46 false false)).get j = G1.get j := fun j hj => by rw [J05 (by omega) (by omega), gO j hj]
  have nG3 : (G2.put G1.next (.row (J0e x) 46 false false)).next = G2.next := rfl
  have fG3 : (G2.put G1.next (.row (J0e x) 46 false false)).floor = G2.floor := rfl
  clear hst hst2
  generalize G2.put G1.next (.row (J0e x) 46 false false) = G3 at *
  have lw3 : ldN 5 0 (G3.get G1.next) = some (rowV x) := by rw [gN3]; rfl
  have gP3 : G3.get h6.next = h9.get h6.next := (gO3 _ (by omega)).trans gP
  obtain ⟨iz, pz, ez, _, _, _, _, _, _, lz⟩ := (p1.1.mono (h' := G3) (by omega) fun j hj => (gO3 j (by omega)).trans ((k3 j (by omega)).trans (OP j hj))).row hx
  have lz' : ldN 5 pz (G3.get iz) = some (rowV x) := lz
  have hre : (!(J5z x x)) = false := by rw [J1K]; rfl
  have w2 : IntKind.i64.wrap ((i : Int) + 1) = ((i + 1 : Nat) : Int) := J0s (by omega) (by omega)
  refine WK.flags (ops := ops8_29) flags8_29 ?_
  refine WKF.begin ?_
  have FF := And.intro @JcC (And.intro @t10 (And.intro @t12 (And.intro @t14 (And.intro @J0u (And.intro @lw3 (And.intro @J0y (And.intro @J0F (And.intro @gP3 (And.intro @x1 (And.intro @ez (And.intro @lz' (And.intro @J6U @hre))))))))))))
  refine wst hsn 0 (some 187) (.load 46 (.tmp 15)) none ?_
  simp only [rgC, seval, J04, J02, WKFC, rgL, Nat.zero_add, FF]
  refine wst hsn 1 (some 188) (.fieldAddr 30 (.tmp 10) 1) none ?_
  simp only [rgC, seval, J04, J02, WKFC, Nat.zero_add, Nat.zero_add, FF]
  refine wst hsn 2 (some 189) (.load 22 (.tmp 188)) none ?_
  simp only [rgC, seval, J04, J02, WKFC, rgL, Nat.zero_add, FF]
  refine wst hsn 3 (some 190) (.move (.tmp 14)) none ?_
  simp only [rgC, seval, J04, J02, WKFC, Nat.zero_add, FF]
  refine wst hsn 4 (some 191) (.indexAddr 22 (.tmp 189) (.tmp 190)) none ?_
  simp only [rgC, seval, J04, J02, WKFC, Nat.zero_add, Nat.zero_add, FF]
  refine wst hsn 5 (some 192) (.load 46 (.tmp 191)) none ?_
  simp only [rgC, seval, J04, J02, WKFC, rgL, Nat.zero_add, FF]
  refine wst hsn 6 (some 193) (.binOp .neq 46 (.tmp 187) (.tmp 192) 46) none ?_
  simp only [rgC, seval, J04, J02, WKFC, rgB, Nat.zero_add, FF]
  refine WKF.done (i := 7) (by kernel_rfl) ?_
  clear FF
  simp only [evC, seval, ↓evP, JcC, t10, t12, t14, w2]
  exact ⟨by omega, by omega, by omega, by omega, fun j hj => (gO3 j (by omega)).trans (k3 j hj)⟩
 have c2 : decide ((i : Int) < (s.rows.length : Int)) = false := by simp; omega
 have A5 : J1S h5.next G1 vu s.rules := J1S.mono p5 (by omega) fun j _ hj => (k3 j (by omega)).trans (OP j hj)
 have A6 : J1S h5.next G1 vo s.on := J1S.mono p6 (by omega) fun j _ hj => (k3 j (by omega)).trans (OP j hj)
 have B5 : J1S h7.next G1 wu s'.rules := J1S.mono u5 (by omega) fun j _ hj => (k3 j (by omega)).trans (o9 j hj)
 have B6 : J1S h7.next G1 wo s'.on := J1S.mono u6 (by omega) fun j _ hj => (k3 j (by omega)).trans (o9 j hj)
 obtain ⟨e1, e2, e3, e4, e5, e6⟩ := hsmP
 have hs1 := t_k (n := n) (by decide) (J78 (n := n) A5 B5 (by omega) (by unfold Jbg at htotP; omega))
 have hs2 := t_k (n := n) (by decide) (J78 (n := n) A6 B6 (by omega) (by unfold Jbg at htotP; omega))
 rw [decide_eq_true r6.symm] at hs1
 rw [decide_eq_true r7.symm] at hs2
 rw [r8] at y7
 have hhdG := JfG (n := n) (h := G1) (by rw [k3 0 (by omega), o9 0 (by omega), o8 0 (by omega)]; exact hg7)
 simp only [evC, seval, ↓evP, hr, Nat.zero_add, t10, t12, t14, J0y, J36, J1T, J38, J0F, J0n, J0m, gP, gQ, x1, x5, x6, x7, y5, y6, y7, plen1, c2, hs1, hs2, BEq.rfl, hhdG]
end
end Go.Proofs.YtipekdhneagdbaaDoor
