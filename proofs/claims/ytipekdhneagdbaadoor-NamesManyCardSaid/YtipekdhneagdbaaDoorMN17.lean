/- Part 17 of what the claim leans on: 1 texts laid one behind another. -/
import Derived.Test.YtipekdhneagdbaaDoorMN16
namespace Go.Proofs.YtipekdhneagdbaaDoor
open Go Go.Sx
set_option maxRecDepth 100000
set_option linter.unusedSimpArgs false
set_option linter.unusedVariables false
theorem Jm3 {k c : Int} {nm : ByteArray} : J1P Tryd.prog 46 [(0, iv k), (1, .string nm), (4, iv c)] = some (rowV (rowK k nm c)) := by
 have h := J9X
 rw [Tryd.underlying46] at h
 simp only at h
 have hf : flat (.agg #[.int .i64 0, .string ByteArray.empty, .int .i64 0, .int .i64 0, .int .i64 0]) = true := rfl
 simp only [J1P, J40, hf, if_true, Tryd.underlying46, h]
 rfl
section
variable {call : J0r} {N n : Nat} {h : SHeap}
theorem Jm4 {k c : Int} {nm : ByteArray} (hfl : h.floor ≤ h.next) : ∃ h', J0L Tryd.prog call N 28 [iv k, .string nm, iv c] h = some (rowV (rowK k nm c), h') ∧ ∀ i, i < h.next → h'.get i = h.get i := by
 refine J1N (R := fun h' => ∀ i, i < h.next → h'.get i = h.get i) Tryd.func28 rfl (by simp [Tryd.f28]) ?_
 have hr : Tryd.f28.results.toList = [.cell 6 46] := rfl
 have hz : flat (.agg #[.int .i64 0, .string ByteArray.empty, .int .i64 0, .int .i64 0, .int .i64 0]) = true := rfl
 have hzc : (Value.agg #[.int .i64 0, .string ByteArray.empty, .int .i64 0, .int .i64 0, .int .i64 0]).cells.toList = J0e zRow := rfl
 have hst : J0K Tryd.prog (h.push (.row (J0e zRow) 46 false false)) 46 (.pointer (some ⟨h.next, 0, none⟩)) (rowV (rowK k nm c)) = some ((h.push (.row (J0e zRow) 46 false false)).put h.next (.row (J0e (rowK k nm c)) 46 false false)) := JaU (i := 0) (off := 0) (L := [zRow]) rfl J0h (by decide) (by rw [J0i]; exact hfl)
 have lw : ldN 5 0 (((h.push (.row (J0e zRow) 46 false false)).put h.next (.row (J0e (rowK k nm c)) 46 false false)).get h.next) = some (rowV (rowK k nm c)) := by rw [J0b rfl (by rw [J1D]; omega)]; rfl
 have hold : ∀ i, i < h.next → ((h.push (.row (J0e zRow) 46 false false)).put h.next (.row (J0e (rowK k nm c)) 46 false false)).get i = h.get i := fun i hi => by rw [J05 (by rw [J1D]; omega) (by omega), J06 hi]
 generalize hgo : (h.push (.row (J0e zRow) 46 false false)).put h.next (.row (J0e (rowK k nm c)) 46 false false) = G at *
 simp only [evC, seval, ↓evP, hr, J40, hz, hzc, Jm3, hst, J0u, lw]
 exact hold
theorem JkE {k c : Int} {nm : ByteArray} (hfl : h.floor ≤ h.next) (hn : 0 < n) : J0T n 28 [iv k, .string nm, iv c] h = some (rowV (rowK k nm c), h) := by
 obtain ⟨n, rfl⟩ : ∃ j, n = j + 1 := ⟨n - 1, by omega⟩
 exact J4r (J13 ⟨rfl, rfl, rfl⟩) rfl (Jm4 hfl)
end
def Jki (h : SHeap) (lo : Nat) (v : Value) (l : List RowN) : Prop := ∃ id c, v = .slice (some ⟨id, 0, none⟩) l.length c ∧ lo ≤ id ∧ id < h.next ∧ ((c = unk ∧ h.get id = .row (l.flatMap J0e) 46 true false) ∨ (c = l.length ∧ h.get id = .row (l.flatMap J0e) 46 false false))
theorem Jki.rows {h : SHeap} {lo : Nat} {v : Value} {l : List RowN} (hl : Jki h lo v l) : J0l h v l := by
 obtain ⟨id, c, rfl, h1, h2, h3⟩ := hl
 have hg : ∃ g, h.get id = .row (l.flatMap J0e) 46 g false := by rcases h3 with ⟨_, h⟩ | ⟨_, h⟩ <;> exact ⟨_, h⟩
 obtain ⟨g, hg⟩ := hg
 exact ⟨_, _, rfl, .inr ⟨id, 0, _, _, _, _, rfl, hg, h2, fun k r hk => by rw [Nat.zero_add]; exact J2Y hk⟩⟩
theorem JkO {h : SHeap} {lo : Nat} {v : Value} {l xs : List RowN} (hl : Jki h lo v l) (hlo : lo ≤ h.next) (hf : h.floor ≤ lo) (hb : l.length < 10000) (hx : 0 < xs.length) (hb2 : xs.length < 10000) :
  ∃ v' h', J1o Tryd.prog (h.push (.row (xs.flatMap J0e) 46 false false)) 22 v (.slice (some ⟨h.next, 0, none⟩) xs.length xs.length) = some (v', h') ∧ Jki h' lo v' (l ++ xs) ∧ h'.floor = h.floor ∧ h.next ≤ h'.next ∧ ∀ i, i < lo → h'.get i = h.get i := by
 obtain ⟨id, c, rfl, h1, h2, h3⟩ := hl
 have hll := J0N l
 have hxl := J0N xs
 have hu : l.length ≤ unk := by unfold unk; omega
 have hsrc : J16 (h.push (.row (xs.flatMap J0e) 46 false false)) 5 xs.length (.slice (some ⟨h.next, 0, none⟩) xs.length xs.length) = some (xs.flatMap J0e) := by
  simp only [J16, J0h, cut, List.drop_zero]
  rw [if_neg (by omega), List.take_of_length_le (by omega), if_pos hxl]
 have hzs : (Value.agg #[.int .i64 0, .string ByteArray.empty, .int .i64 0, .int .i64 0, .int .i64 0]).cells.size = 5 := rfl
 rcases h3 with ⟨rfl, hg⟩ | ⟨rfl, hg⟩
 ·have hg' : (h.push (.row (xs.flatMap J0e) 46 false false)).get id = .row (l.flatMap J0e) 46 true false := by rw [J06 h2]; exact hg
  have hcut : cut (l.flatMap J0e) 0 (l.length * 5) = some (l.flatMap J0e) := by
   simp only [cut, List.drop_zero]
   rw [List.take_of_length_le (by omega), if_pos hll]
  refine ⟨.slice (some ⟨(h.push (.row (xs.flatMap J0e) 46 false false)).next, 0, none⟩) (l.length + xs.length) unk, ((h.push (.row (xs.flatMap J0e) 46 false false)).put id .dead).push (.row (l.flatMap J0e ++ xs.flatMap J0e) 46 true false), ?_, ⟨_, unk, by rw [List.length_append], ?_, ?_, .inl ⟨rfl, ?_⟩⟩, rfl, by show h.next ≤ h.next + 1 + 1; omega, fun i hi => ?_⟩
  ·simp only [J1o, Tryd.underlying22, sz46, by46, J40, hzs, hsrc, hg', hcut]
   have z1 : (decide ((l.length + xs.length) * 48 ≤ 140737488355328) && decide (l.length + xs.length ≤ 140737488355328) && decide ((h.push (.row (xs.flatMap J0e) 46 false false)).floor ≤ id)) = true := by
    rw [J0i, decide_eq_true (show (l.length + xs.length) * 48 ≤ 140737488355328 by omega), decide_eq_true (show l.length + xs.length ≤ 140737488355328 by omega), decide_eq_true (show h.floor ≤ id by omega)]
    rfl
   rw [if_pos (by simp; omega), if_pos (J4y _), if_pos trivial, if_pos z1, if_neg (show ¬ xs.length = 0 by omega), if_pos trivial, if_pos (J4y _)]
  ·show lo ≤ h.next + 1; omega
  ·show h.next + 1 < h.next + 1 + 1; omega
  ·rw [List.flatMap_append]
   exact J0h
  ·rw [J06 (by show i < h.next + 1; omega), J05 (by show id < h.next + 1; omega) (by omega), J06 (by omega)]
 ·have hcut : J16 (h.push (.row (xs.flatMap J0e) 46 false false)) 5 l.length (.slice (some ⟨id, 0, none⟩) l.length l.length) = some (l.flatMap J0e) := by
   by_cases h0 : l.length = 0
   ·rw [List.length_eq_zero_iff.1 h0]
    rfl
   ·simp only [J16, J06 h2, hg, cut, List.drop_zero]
    rw [if_neg h0, List.take_of_length_le (by omega), if_pos hll]
  refine ⟨.slice (some ⟨(h.push (.row (xs.flatMap J0e) 46 false false)).next, 0, none⟩) (l.length + xs.length) unk, (h.push (.row (xs.flatMap J0e) 46 false false)).push (.row (l.flatMap J0e ++ xs.flatMap J0e) 46 true false), ?_, ⟨_, unk, by rw [List.length_append], ?_, ?_, .inl ⟨rfl, ?_⟩⟩, rfl, by show h.next ≤ h.next + 1 + 1; omega, fun i hi => ?_⟩
  ·simp only [J1o, Tryd.underlying22, sz46, by46, J40, hzs, hsrc, hcut]
   rw [if_pos (by simp), if_pos (J4y _), if_neg (by unfold unk; omega), if_neg (by omega), if_pos (by simp only [Bool.and_eq_true, decide_eq_true_eq]; omega)]
  ·show lo ≤ h.next + 1; omega
  ·show h.next + 1 < h.next + 1 + 1; omega
  ·rw [List.flatMap_append]
   exact J0h
  ·rw [J06 (by show i < h.next + 1; omega), J06 (by omega)]
theorem JkZ {h : SHeap} {x y : RowN} : J0Q Tryd.prog h 22 2 [(0, rowV x), (1, rowV y)] = some (.slice (some ⟨h.next, 0, none⟩) 2 2, h.push (.row ([x, y].flatMap J0e) 46 false false)) := by
 simp [J0Q, Tryd.underlying22, sz46, J40, flat, J1i, J0G, J5k, J3e, Go.Sx.lay]
 rfl
theorem Jm5 {h : SHeap} {x y z u : RowN} : J0Q Tryd.prog h 22 4 [(0, rowV x), (1, rowV y), (2, rowV z), (3, rowV u)] = some (.slice (some ⟨h.next, 0, none⟩) 4 4, h.push (.row ([x, y, z, u].flatMap J0e) 46 false false)) := by
 simp [J0Q, Tryd.underlying22, sz46, J40, flat, J1i, J0G, J5k, J3e, Go.Sx.lay]
 rfl
theorem Jls {h : SHeap} {x : RowN} : J0Q Tryd.prog h 22 1 [(0, rowV x)] = some (.slice (some ⟨h.next, 0, none⟩) 1 1, h.push (.row ([x].flatMap J0e) 46 false false)) := by
 simp [J0Q, Tryd.underlying22, sz46, J40, flat, J1i, J0G, J5k, J3e, Go.Sx.lay]
 rfl
def atN (a m x i : Nat) : Nat := if a = 0 ∧ m < i then x else a
section
variable {a m x i : Nat}
theorem JmJ : atN a m x 0 = a := if_neg (by omega)
theorem Jlo (ha : a = 0) (hi : i = m) : atN a m x i = 0 := by unfold atN; rw [if_neg (by omega), ha]
theorem Jlp (ha : a = 0) (hi : i = m) : atN a m x (i + 1) = x := if_pos ⟨ha, by omega⟩
theorem Jka (ha : ¬ a = 0) : atN a m x i = a := if_neg (by omega)
theorem JkJ (hi : ¬ i = m) : atN a m x (i + 1) = atN a m x i := by
 unfold atN
 by_cases h9 : a = 0 ∧ m < i
 ·rw [if_pos h9, if_pos ⟨h9.1, by omega⟩]
 ·rw [if_neg h9, if_neg (by omega)]
end
theorem Jkp {α : Type} {f : Nat → List α} {i : Nat} : (List.range (i + 1)).flatMap f = (List.range i).flatMap f ++ f i := by rw [List.range_succ, List.flatMap_append, List.flatMap_cons, List.flatMap_nil, List.append_nil]
section
variable {n : Nat} {h : SHeap}
set_option maxHeartbeats 64000000 in
theorem Jm0 {a b c d : Int} (hfl : h.floor ≤ h.next) (hg : h.get 0 = J14) (hn0 : 0 < h.next) (hn : 400000 < n) :
  ∃ h', J0L Tryd.prog (Jb4 n) n 6 [iv a, iv b, iv c, iv d] h = some (.bool true, h') ∧ True := by
 have hsn := (JaT n).2
 refine J1N (R := fun _ => True) Tryd.func6 rfl (by simp [Tryd.f6]) ?_
 have hr : Tryd.f6.results.toList = [.tmp 8] := rfl
 have ra := t_k (n := n) (by decide) (Jla (n := n) (h := h) (a := a) (m := 20) ⟨by decide, by decide⟩ (by omega))
 have rb := t_k (n := n) (by decide) (Jla (n := n) (h := h) (a := b) (m := 20) ⟨by decide, by decide⟩ (by omega))
 have rc := t_k (n := n) (by decide) (Jla (n := n) (h := h) (a := c) (m := 7) ⟨by decide, by decide⟩ (by omega))
 have rd := t_k (n := n) (by decide) (Jla (n := n) (h := h) (a := d) (m := 68) ⟨by decide, by decide⟩ (by omega))
 obtain ⟨q, hqa, hq⟩ : ∃ q : Nat, a % 20 = (q : Int) ∧ q < 20 := ⟨(a % 20).toNat, by omega, by omega⟩
 obtain ⟨v, hvb, hv⟩ : ∃ v : Nat, b % 20 = (v : Int) ∧ v < 20 := ⟨(b % 20).toNat, by omega, by omega⟩
 obtain ⟨t, htc, ht⟩ : ∃ t : Nat, c % 7 = (t : Int) ∧ t < 7 := ⟨(c % 7).toNat, by omega, by omega⟩
 obtain ⟨r, hrd, hr68⟩ : ∃ r : Nat, d % 68 = (r : Int) ∧ r < 68 := ⟨(d % 68).toNat, by omega, by omega⟩
 rw [hqa] at ra
 rw [hvb] at rb
 rw [htc] at rc
 rw [hrd] at rd
 have w1 : IntKind.i64.wrap ((q : Int) + (v : Int)) = ((q + v : Nat) : Int) := by rw [J0s (by omega) (by omega)]; omega
 have w2 : IntKind.i64.wrap (((q + v : Nat) : Int) + (t : Int)) = ((q + v + t : Nat) : Int) := by rw [J0s (by omega) (by omega)]; omega
 have w3 : IntKind.i64.wrap (((q + v + t : Nat) : Int) + (r : Int)) = ((q + v + t + r : Nat) : Int) := by rw [J0s (by omega) (by omega)]; omega
 have hrow0 := t_k (n := n) (by decide) (JkE (n := n) (h := h) (k := 1) (c := ((q + v + t + r : Nat) : Int)) (nm := pB) hfl (by omega))
 simp only [evC, seval, ↓evP, ra, rb, rc, rd, w1, w2, w3, hrow0, Jls]
 have gO : ∀ i, i < h.next → (h.push (.row ([rowK 1 pB ((q + v + t + r : Nat) : Int)].flatMap J0e) 46 false false)).get i = h.get i := fun i hi => J06 hi
 have hL0 : Jki (h.push (.row ([rowK 1 pB ((q + v + t + r : Nat) : Int)].flatMap J0e) 46 false false)) h.next (.slice (some ⟨h.next, 0, none⟩) 1 1) [rowK 1 pB ((q + v + t + r : Nat) : Int)] := ⟨h.next, 1, rfl, Nat.le_refl _, by rw [J1D]; omega, .inr ⟨rfl, J0h⟩⟩
 have nO : (h.push (.row ([rowK 1 pB ((q + v + t + r : Nat) : Int)].flatMap J0e) 46 false false)).next = h.next + 1 := rfl
 have fO : (h.push (.row ([rowK 1 pB ((q + v + t + r : Nat) : Int)].flatMap J0e) 46 false false)).floor = h.floor := rfl
 generalize h.push (.row ([rowK 1 pB ((q + v + t + r : Nat) : Int)].flatMap J0e) 46 false false) = G0 at *
 refine WK.loop (fun i s' => s'.T.get 0 = iv q ∧ s'.T.get 1 = iv v ∧ s'.T.get 2 = iv t ∧ s'.T.get 3 = iv r ∧ s'.T.get 10 = iv (atN 0 64 129 i : Nat) ∧ s'.T.get 11 = iv i ∧ i ≤ r ∧ (∃ w, s'.T.get 9 = w ∧ Jki s'.h h.next w (rowK 1 pB ((q + v + t + r : Nat) : Int) :: (List.range i).flatMap itR)) ∧ h.next ≤ s'.h.next ∧ s'.h.floor = h.floor ∧ ∀ j, j < h.next → s'.h.get j = h.get j) r (by omega) ?_ ?_
 ·exact ⟨by simp only [evC, seval, ↓evP, rpC], by simp only [evC, seval, ↓evP, rpC], by simp only [evC, seval, ↓evP, rpC], by simp only [evC, seval, ↓evP, rpC], by simp only [evC, seval, ↓evP, rpC]; rfl, by simp only [evC, seval, ↓evP, rpC], by omega, ⟨.slice (some ⟨h.next, 0, none⟩) 1 1, by simp only [evC, seval, ↓evP, rpC], by simpa using hL0⟩, by show h.next ≤ G0.next; omega, fO, gO⟩
 rintro i ⟨T1, G1⟩ hi1 ⟨t0, t1, t2, t3, t10, tc, hil, ⟨w, t9, hL⟩, m1, m2, m3⟩
 simp only at t0 t1 t2 t3 t10 tc t9 hL m1 m2 m3
 by_cases hlt : i < r
 ·have c1 : decide ((i : Int) < (r : Int)) = true := by simp; omega
  have hlen : (rowK 1 pB ((q + v + t + r : Nat) : Int) :: (List.range i).flatMap itR).length = 1 + 2 * i := by
   rw [List.length_cons, Jk7 (w := 2) (f := itR) (fun _ => rfl)]
   simp only [List.length_range]
   omega
  have hnum := t_k (n := n) (by decide) (Jkm (n := n) (h := G1) (c := 114) (k := i) (by omega) (by omega))
  have hr1 := t_k (n := n) (by decide) (JkE (n := n) (h := G1) (k := 7) (c := 1) (nm := numB 114 i) (by omega) (by omega))
  have hr2 := t_k (n := n) (by decide) (JkE (n := n) (h := G1) (k := 11) (c := 0) (nm := ByteArray.empty) (by omega) (by omega))
  have hr2' : Jb4 n 28 [iv 11, .string ⟨#[]⟩, iv 0] G1 = some (rowV (rowK 11 ByteArray.empty 0), G1) := hr2
  obtain ⟨w', H, happ, hL', fH, nH, oH⟩ := JkO (xs := itR i) hL m1 (by omega) (by rw [hlen]; omega) (by show 0 < 2; decide) (by show 2 < 10000; decide)
  have hlw : lenS Tryd.prog G1 22 w = some (iv ((1 + 2 * i : Nat) : Int)) := by
   obtain ⟨id, cc, rfl, _⟩ := hL
   rw [JeK, hlen]
  have hLn : Jki H h.next w' (rowK 1 pB ((q + v + t + r : Nat) : Int) :: (List.range (i + 1)).flatMap itR) := by
   rw [Jkp]
   simpa only [List.cons_append, List.append_assoc] using hL'
  have happ' : J1o Tryd.prog (G1.push (.row (itR i |>.flatMap J0e) 46 false false)) 22 w (.slice (some ⟨G1.next, 0, none⟩) 2 2) = some (w', H) := happ
  unfold itR at happ'
  have w4 : IntKind.i64.wrap ((i : Int) + 1) = ((i + 1 : Nat) : Int) := J0s (by omega) (by omega)
  by_cases hM : i = 64
  ·have e1 : ((i : Int) == 64) = true := by subst hM; rfl
   by_cases ha : 0 = 0
   ·have e2 : atN 0 64 129 i = 0 := Jlo ha hM
    have e3 : atN 0 64 129 (i + 1) = 1 + 2 * i := (Jlp ha hM).trans (by omega)
    rw [e2] at t10
    have t10' : T1.get 10 = iv 0 := t10
    simp only [evC, seval, ↓evP, t0, t1, t2, t3, t10', tc, t9, c1, e1, hlw, hnum, hr1, hr2', JkZ, happ', w4]
    exact ⟨by omega, by rw [e3], by omega, hLn, by omega, by omega, fun j hj => (oH j hj).trans (m3 j hj)⟩
   ·have e2 : (((atN 0 64 129 i : Nat) : Int) == 0) = false := by rw [Jka ha]; exact beq_eq_false_iff_ne.2 (by omega)
    have e3 : atN 0 64 129 (i + 1) = atN 0 64 129 i := by rw [Jka ha, Jka ha]
    simp only [evC, seval, ↓evP, t0, t1, t2, t3, t10, tc, t9, c1, e1, e2, hnum, hr1, hr2', JkZ, happ', w4]
    exact ⟨by omega, by rw [e3], by omega, hLn, by omega, by omega, fun j hj => (oH j hj).trans (m3 j hj)⟩
  ·have e1 : ((i : Int) == 64) = false := by simp; omega
   have e3 : atN 0 64 129 (i + 1) = atN 0 64 129 i := JkJ hM
   simp only [evC, seval, ↓evP, t0, t1, t2, t3, t10, tc, t9, c1, e1, hnum, hr1, hr2', JkZ, happ', w4]
   exact ⟨by omega, by rw [e3], by omega, hLn, by omega, by omega, fun j hj => (oH j hj).trans (m3 j hj)⟩
 have c1 : decide ((i : Int) < (r : Int)) = false := by simp; omega
 have : r = i := by omega
 subst this
 simp only [evC, seval, ↓evP, t0, t1, t2, t3, t10, tc, t9, c1]
 refine WK.loop (fun i s' => s'.T.get 0 = iv q ∧ s'.T.get 1 = iv v ∧ s'.T.get 2 = iv t ∧ s'.T.get 3 = iv r ∧ s'.T.get 10 = iv (atN (atN 0 64 129 r) 4 (1 + 2 * r + 8) i : Nat) ∧ s'.T.get 12 = iv i ∧ i ≤ t ∧ (∃ w, s'.T.get 9 = w ∧ Jki s'.h h.next w (rowK 1 pB ((q + v + t + r : Nat) : Int) :: ((List.range r).flatMap itR ++ (List.range i).flatMap itT))) ∧ h.next ≤ s'.h.next ∧ s'.h.floor = h.floor ∧ ∀ j, j < h.next → s'.h.get j = h.get j) t (by omega) ?_ ?_
 ·refine ⟨by simp only [evC, seval, ↓evP, rpC, t0], by simp only [evC, seval, ↓evP, rpC, t1], by simp only [evC, seval, ↓evP, rpC, t2], by simp only [evC, seval, ↓evP, rpC, t3], ?_, by simp only [evC, seval, ↓evP, rpC], by omega, ⟨w, by simp only [evC, seval, ↓evP, rpC, t9], ?_⟩, m1, m2, m3⟩
  ·rw [JmJ]
   simp only [evC, seval, ↓evP, rpC, t10]
  ·rw [List.range_zero, List.flatMap_nil, List.append_nil]
   exact hL
 rintro i ⟨T2, G2⟩ hi1 ⟨t0, t1, t2, t3, t10, tc, hil, ⟨w, t9, hL⟩, m1, m2, m3⟩
 simp only at t0 t1 t2 t3 t10 tc t9 hL m1 m2 m3
 by_cases hlt : i < t
 ·have c1 : decide ((i : Int) < (t : Int)) = true := by simp; omega
  have hlen : (rowK 1 pB ((q + v + t + r : Nat) : Int) :: ((List.range r).flatMap itR ++ (List.range i).flatMap itT)).length = 1 + 2 * r + 2 * i := by
   rw [List.length_cons, List.length_append, Jk7 (w := 2) (f := itR) (fun _ => rfl), Jk7 (w := 2) (f := itT) (fun _ => rfl)]
   simp only [List.length_range]
   omega
  have hnum := t_k (n := n) (by decide) (Jkm (n := n) (h := G2) (c := 116) (k := i) (by omega) (by omega))
  have hr1 := t_k (n := n) (by decide) (JkE (n := n) (h := G2) (k := 5) (c := 1) (nm := numB 116 i) (by omega) (by omega))
  have hr2 := t_k (n := n) (by decide) (JkE (n := n) (h := G2) (k := 29) (c := 0) (nm := ByteArray.empty) (by omega) (by omega))
  have hr2' : Jb4 n 28 [iv 29, .string ⟨#[]⟩, iv 0] G2 = some (rowV (rowK 29 ByteArray.empty 0), G2) := hr2
  obtain ⟨w', H, happ, hL', fH, nH, oH⟩ := JkO (xs := itT i) hL m1 (by omega) (by rw [hlen]; omega) (by show 0 < 2; decide) (by show 2 < 10000; decide)
  have hlw : lenS Tryd.prog G2 22 w = some (iv ((1 + 2 * r + 2 * i : Nat) : Int)) := by
   obtain ⟨id, cc, rfl, _⟩ := hL
   rw [JeK, hlen]
  have hLn : Jki H h.next w' (rowK 1 pB ((q + v + t + r : Nat) : Int) :: ((List.range r).flatMap itR ++ (List.range (i + 1)).flatMap itT)) := by
   rw [Jkp]
   simpa only [List.cons_append, List.append_assoc] using hL'
  have happ' : J1o Tryd.prog (G2.push (.row (itT i |>.flatMap J0e) 46 false false)) 22 w (.slice (some ⟨G2.next, 0, none⟩) 2 2) = some (w', H) := happ
  unfold itT at happ'
  have w4 : IntKind.i64.wrap ((i : Int) + 1) = ((i + 1 : Nat) : Int) := J0s (by omega) (by omega)
  by_cases hM : i = 4
  ·have e1 : ((i : Int) == 4) = true := by subst hM; rfl
   by_cases ha : (atN 0 64 129 r) = 0
   ·have e2 : atN (atN 0 64 129 r) 4 (1 + 2 * r + 8) i = 0 := Jlo ha hM
    have e3 : atN (atN 0 64 129 r) 4 (1 + 2 * r + 8) (i + 1) = 1 + 2 * r + 2 * i := (Jlp ha hM).trans (by omega)
    rw [e2] at t10
    have t10' : T2.get 10 = iv 0 := t10
    simp only [evC, seval, ↓evP, t0, t1, t2, t3, t10', tc, t9, c1, e1, hlw, hnum, hr1, hr2', JkZ, happ', w4]
    exact ⟨by omega, by rw [e3], by omega, hLn, by omega, by omega, fun j hj => (oH j hj).trans (m3 j hj)⟩
   ·have e2 : (((atN (atN 0 64 129 r) 4 (1 + 2 * r + 8) i : Nat) : Int) == 0) = false := by rw [Jka ha]; exact beq_eq_false_iff_ne.2 (by omega)
    have e3 : atN (atN 0 64 129 r) 4 (1 + 2 * r + 8) (i + 1) = atN (atN 0 64 129 r) 4 (1 + 2 * r + 8) i := by rw [Jka ha, Jka ha]
    simp only [evC, seval, ↓evP, t0, t1, t2, t3, t10, tc, t9, c1, e1, e2, hnum, hr1, hr2', JkZ, happ', w4]
    exact ⟨by omega, by rw [e3], by omega, hLn, by omega, by omega, fun j hj => (oH j hj).trans (m3 j hj)⟩
  ·have e1 : ((i : Int) == 4) = false := by simp; omega
   have e3 : atN (atN 0 64 129 r) 4 (1 + 2 * r + 8) (i + 1) = atN (atN 0 64 129 r) 4 (1 + 2 * r + 8) i := JkJ hM
   simp only [evC, seval, ↓evP, t0, t1, t2, t3, t10, tc, t9, c1, e1, hnum, hr1, hr2', JkZ, happ', w4]
   exact ⟨by omega, by rw [e3], by omega, hLn, by omega, by omega, fun j hj => (oH j hj).trans (m3 j hj)⟩
 have c1 : decide ((i : Int) < (t : Int)) = false := by simp; omega
 have : t = i := by omega
 subst this
 simp only [evC, seval, ↓evP, t0, t1, t2, t3, t10, tc, t9, c1]
 refine WK.loop (fun i s' => s'.T.get 0 = iv q ∧ s'.T.get 1 = iv v ∧ s'.T.get 2 = iv t ∧ s'.T.get 3 = iv r ∧ s'.T.get 10 = iv (atN (atN (atN 0 64 129 r) 4 (1 + 2 * r + 8) t) 16 (1 + 2 * r + 2 * t + 64) i : Nat) ∧ s'.T.get 13 = iv i ∧ i ≤ v ∧ (∃ w, s'.T.get 9 = w ∧ Jki s'.h h.next w (rowK 1 pB ((q + v + t + r : Nat) : Int) :: ((List.range r).flatMap itR ++ ((List.range t).flatMap itT ++ (List.range i).flatMap itV)))) ∧ h.next ≤ s'.h.next ∧ s'.h.floor = h.floor ∧ ∀ j, j < h.next → s'.h.get j = h.get j) v (by omega) ?_ ?_
 ·refine ⟨by simp only [evC, seval, ↓evP, rpC, t0], by simp only [evC, seval, ↓evP, rpC, t1], by simp only [evC, seval, ↓evP, rpC, t2], by simp only [evC, seval, ↓evP, rpC, t3], ?_, by simp only [evC, seval, ↓evP, rpC], by omega, ⟨w, by simp only [evC, seval, ↓evP, rpC, t9], ?_⟩, m1, m2, m3⟩
  ·rw [JmJ]
   simp only [evC, seval, ↓evP, rpC, t10]
  ·rw [List.range_zero, List.flatMap_nil, List.append_nil]
   exact hL
 rintro i ⟨T3, G3⟩ hi1 ⟨t0, t1, t2, t3, t10, tc, hil, ⟨w, t9, hL⟩, m1, m2, m3⟩
 simp only at t0 t1 t2 t3 t10 tc t9 hL m1 m2 m3
 by_cases hlt : i < v
 ·have c1 : decide ((i : Int) < (v : Int)) = true := by simp; omega
  have hlen : (rowK 1 pB ((q + v + t + r : Nat) : Int) :: ((List.range r).flatMap itR ++ ((List.range t).flatMap itT ++ (List.range i).flatMap itV))).length = 1 + 2 * r + 2 * t + 4 * i := by
   rw [List.length_cons, List.length_append, List.length_append, Jk7 (w := 2) (f := itR) (fun _ => rfl), Jk7 (w := 2) (f := itT) (fun _ => rfl), Jk7 (w := 4) (f := itV) (fun _ => rfl)]
   simp only [List.length_range]
   omega
  have hnum := t_k (n := n) (by decide) (Jkm (n := n) (h := G3) (c := 118) (k := i) (by omega) (by omega))
  have hr1 := t_k (n := n) (by decide) (JkE (n := n) (h := G3) (k := 4) (c := 3) (nm := numB 118 i) (by omega) (by omega))
  have hr2 := t_k (n := n) (by decide) (JkE (n := n) (h := G3) (k := 29) (c := 0) (nm := ByteArray.empty) (by omega) (by omega))
  have hr2' : Jb4 n 28 [iv 29, .string ⟨#[]⟩, iv 0] G3 = some (rowV (rowK 29 ByteArray.empty 0), G3) := hr2
  obtain ⟨w', H, happ, hL', fH, nH, oH⟩ := JkO (xs := itV i) hL m1 (by omega) (by rw [hlen]; omega) (by show 0 < 4; decide) (by show 4 < 10000; decide)
  have hlw : lenS Tryd.prog G3 22 w = some (iv ((1 + 2 * r + 2 * t + 4 * i : Nat) : Int)) := by
   obtain ⟨id, cc, rfl, _⟩ := hL
   rw [JeK, hlen]
  have hLn : Jki H h.next w' (rowK 1 pB ((q + v + t + r : Nat) : Int) :: ((List.range r).flatMap itR ++ ((List.range t).flatMap itT ++ (List.range (i + 1)).flatMap itV))) := by
   rw [Jkp]
   simpa only [List.cons_append, List.append_assoc] using hL'
  have happ' : J1o Tryd.prog (G3.push (.row (itV i |>.flatMap J0e) 46 false false)) 22 w (.slice (some ⟨G3.next, 0, none⟩) 4 4) = some (w', H) := happ
  unfold itV at happ'
  have w4 : IntKind.i64.wrap ((i : Int) + 1) = ((i + 1 : Nat) : Int) := J0s (by omega) (by omega)
  by_cases hM : i = 16
  ·have e1 : ((i : Int) == 16) = true := by subst hM; rfl
   by_cases ha : (atN (atN 0 64 129 r) 4 (1 + 2 * r + 8) t) = 0
   ·have e2 : atN (atN (atN 0 64 129 r) 4 (1 + 2 * r + 8) t) 16 (1 + 2 * r + 2 * t + 64) i = 0 := Jlo ha hM
    have e3 : atN (atN (atN 0 64 129 r) 4 (1 + 2 * r + 8) t) 16 (1 + 2 * r + 2 * t + 64) (i + 1) = 1 + 2 * r + 2 * t + 4 * i := (Jlp ha hM).trans (by omega)
    rw [e2] at t10
    have t10' : T3.get 10 = iv 0 := t10
    simp only [evC, seval, ↓evP, t0, t1, t2, t3, t10', tc, t9, c1, e1, hlw, hnum, hr1, hr2', Jm5, happ', w4]
    exact ⟨by omega, by rw [e3], by omega, hLn, by omega, by omega, fun j hj => (oH j hj).trans (m3 j hj)⟩
   ·have e2 : (((atN (atN (atN 0 64 129 r) 4 (1 + 2 * r + 8) t) 16 (1 + 2 * r + 2 * t + 64) i : Nat) : Int) == 0) = false := by rw [Jka ha]; exact beq_eq_false_iff_ne.2 (by omega)
    have e3 : atN (atN (atN 0 64 129 r) 4 (1 + 2 * r + 8) t) 16 (1 + 2 * r + 2 * t + 64) (i + 1) = atN (atN (atN 0 64 129 r) 4 (1 + 2 * r + 8) t) 16 (1 + 2 * r + 2 * t + 64) i := by rw [Jka ha, Jka ha]
    simp only [evC, seval, ↓evP, t0, t1, t2, t3, t10, tc, t9, c1, e1, e2, hnum, hr1, hr2', Jm5, happ', w4]
    exact ⟨by omega, by rw [e3], by omega, hLn, by omega, by omega, fun j hj => (oH j hj).trans (m3 j hj)⟩
  ·have e1 : ((i : Int) == 16) = false := by simp; omega
   have e3 : atN (atN (atN 0 64 129 r) 4 (1 + 2 * r + 8) t) 16 (1 + 2 * r + 2 * t + 64) (i + 1) = atN (atN (atN 0 64 129 r) 4 (1 + 2 * r + 8) t) 16 (1 + 2 * r + 2 * t + 64) i := JkJ hM
   simp only [evC, seval, ↓evP, t0, t1, t2, t3, t10, tc, t9, c1, e1, hnum, hr1, hr2', Jm5, happ', w4]
   exact ⟨by omega, by rw [e3], by omega, hLn, by omega, by omega, fun j hj => (oH j hj).trans (m3 j hj)⟩
 have c1 : decide ((i : Int) < (v : Int)) = false := by simp; omega
 have : v = i := by omega
 subst this
 simp only [evC, seval, ↓evP, t0, t1, t2, t3, t10, tc, t9, c1]
 refine WK.loop (fun i s' => s'.T.get 0 = iv q ∧ s'.T.get 1 = iv v ∧ s'.T.get 2 = iv t ∧ s'.T.get 3 = iv r ∧ s'.T.get 10 = iv (atN (atN (atN (atN 0 64 129 r) 4 (1 + 2 * r + 8) t) 16 (1 + 2 * r + 2 * t + 64) v) 16 (1 + 2 * r + 2 * t + 4 * v + 16) i : Nat) ∧ s'.T.get 14 = iv i ∧ i ≤ q ∧ (∃ w, s'.T.get 9 = w ∧ Jki s'.h h.next w (rowK 1 pB ((q + v + t + r : Nat) : Int) :: ((List.range r).flatMap itR ++ ((List.range t).flatMap itT ++ ((List.range v).flatMap itV ++ (List.range i).flatMap itQ))))) ∧ h.next ≤ s'.h.next ∧ s'.h.floor = h.floor ∧ ∀ j, j < h.next → s'.h.get j = h.get j) q (by omega) ?_ ?_
 ·refine ⟨by simp only [evC, seval, ↓evP, rpC, t0], by simp only [evC, seval, ↓evP, rpC, t1], by simp only [evC, seval, ↓evP, rpC, t2], by simp only [evC, seval, ↓evP, rpC, t3], ?_, by simp only [evC, seval, ↓evP, rpC], by omega, ⟨w, by simp only [evC, seval, ↓evP, rpC, t9], ?_⟩, m1, m2, m3⟩
  ·rw [JmJ]
   simp only [evC, seval, ↓evP, rpC, t10]
  ·rw [List.range_zero, List.flatMap_nil, List.append_nil]
   exact hL
 rintro i ⟨T4, G4⟩ hi1 ⟨t0, t1, t2, t3, t10, tc, hil, ⟨w, t9, hL⟩, m1, m2, m3⟩
 simp only at t0 t1 t2 t3 t10 tc t9 hL m1 m2 m3
 by_cases hlt : i < q
 ·have c1 : decide ((i : Int) < (q : Int)) = true := by simp; omega
  have hlen : (rowK 1 pB ((q + v + t + r : Nat) : Int) :: ((List.range r).flatMap itR ++ ((List.range t).flatMap itT ++ ((List.range v).flatMap itV ++ (List.range i).flatMap itQ)))).length = 1 + 2 * r + 2 * t + 4 * v + i := by
   rw [List.length_cons, List.length_append, List.length_append, List.length_append, Jk7 (w := 2) (f := itR) (fun _ => rfl), Jk7 (w := 2) (f := itT) (fun _ => rfl), Jk7 (w := 4) (f := itV) (fun _ => rfl), Jk7 (w := 1) (f := itQ) (fun _ => rfl)]
   simp only [List.length_range]
   omega
  have hnum := t_k (n := n) (by decide) (Jkm (n := n) (h := G4) (c := 113) (k := i) (by omega) (by omega))
  have hr1 := t_k (n := n) (by decide) (JkE (n := n) (h := G4) (k := 2) (c := 0) (nm := numB 113 i) (by omega) (by omega))
  obtain ⟨w', H, happ, hL', fH, nH, oH⟩ := JkO (xs := itQ i) hL m1 (by omega) (by rw [hlen]; omega) (by show 0 < 1; decide) (by show 1 < 10000; decide)
  have hlw : lenS Tryd.prog G4 22 w = some (iv ((1 + 2 * r + 2 * t + 4 * v + i : Nat) : Int)) := by
   obtain ⟨id, cc, rfl, _⟩ := hL
   rw [JeK, hlen]
  have hLn : Jki H h.next w' (rowK 1 pB ((q + v + t + r : Nat) : Int) :: ((List.range r).flatMap itR ++ ((List.range t).flatMap itT ++ ((List.range v).flatMap itV ++ (List.range (i + 1)).flatMap itQ)))) := by
   rw [Jkp]
   simpa only [List.cons_append, List.append_assoc] using hL'
  have happ' : J1o Tryd.prog (G4.push (.row (itQ i |>.flatMap J0e) 46 false false)) 22 w (.slice (some ⟨G4.next, 0, none⟩) 1 1) = some (w', H) := happ
  unfold itQ at happ'
  have w4 : IntKind.i64.wrap ((i : Int) + 1) = ((i + 1 : Nat) : Int) := J0s (by omega) (by omega)
  by_cases hM : i = 16
  ·have e1 : ((i : Int) == 16) = true := by subst hM; rfl
   by_cases ha : (atN (atN (atN 0 64 129 r) 4 (1 + 2 * r + 8) t) 16 (1 + 2 * r + 2 * t + 64) v) = 0
   ·have e2 : atN (atN (atN (atN 0 64 129 r) 4 (1 + 2 * r + 8) t) 16 (1 + 2 * r + 2 * t + 64) v) 16 (1 + 2 * r + 2 * t + 4 * v + 16) i = 0 := Jlo ha hM
    have e3 : atN (atN (atN (atN 0 64 129 r) 4 (1 + 2 * r + 8) t) 16 (1 + 2 * r + 2 * t + 64) v) 16 (1 + 2 * r + 2 * t + 4 * v + 16) (i + 1) = 1 + 2 * r + 2 * t + 4 * v + i := (Jlp ha hM).trans (by omega)
    rw [e2] at t10
    have t10' : T4.get 10 = iv 0 := t10
    simp only [evC, seval, ↓evP, t0, t1, t2, t3, t10', tc, t9, c1, e1, hlw, hnum, hr1, Jls, happ', w4]
    exact ⟨by omega, by rw [e3], by omega, hLn, by omega, by omega, fun j hj => (oH j hj).trans (m3 j hj)⟩
   ·have e2 : (((atN (atN (atN (atN 0 64 129 r) 4 (1 + 2 * r + 8) t) 16 (1 + 2 * r + 2 * t + 64) v) 16 (1 + 2 * r + 2 * t + 4 * v + 16) i : Nat) : Int) == 0) = false := by rw [Jka ha]; exact beq_eq_false_iff_ne.2 (by omega)
    have e3 : atN (atN (atN (atN 0 64 129 r) 4 (1 + 2 * r + 8) t) 16 (1 + 2 * r + 2 * t + 64) v) 16 (1 + 2 * r + 2 * t + 4 * v + 16) (i + 1) = atN (atN (atN (atN 0 64 129 r) 4 (1 + 2 * r + 8) t) 16 (1 + 2 * r + 2 * t + 64) v) 16 (1 + 2 * r + 2 * t + 4 * v + 16) i := by rw [Jka ha, Jka ha]
    simp only [evC, seval, ↓evP, t0, t1, t2, t3, t10, tc, t9, c1, e1, e2, hnum, hr1, Jls, happ', w4]
    exact ⟨by omega, by rw [e3], by omega, hLn, by omega, by omega, fun j hj => (oH j hj).trans (m3 j hj)⟩
  ·have e1 : ((i : Int) == 16) = false := by simp; omega
   have e3 : atN (atN (atN (atN 0 64 129 r) 4 (1 + 2 * r + 8) t) 16 (1 + 2 * r + 2 * t + 64) v) 16 (1 + 2 * r + 2 * t + 4 * v + 16) (i + 1) = atN (atN (atN (atN 0 64 129 r) 4 (1 + 2 * r + 8) t) 16 (1 + 2 * r + 2 * t + 64) v) 16 (1 + 2 * r + 2 * t + 4 * v + 16) i := JkJ hM
   simp only [evC, seval, ↓evP, t0, t1, t2, t3, t10, tc, t9, c1, e1, hnum, hr1, Jls, happ', w4]
   exact ⟨by omega, by rw [e3], by omega, hLn, by omega, by omega, fun j hj => (oH j hj).trans (m3 j hj)⟩
 have c1 : decide ((i : Int) < (q : Int)) = false := by simp; omega
 have : q = i := by omega
 subst this
 simp only [evC, seval, ↓evP, t0, t1, t2, t3, t10, tc, t9, c1]
 have hat : atN (atN (atN (atN 0 64 129 r) 4 (1 + 2 * r + 8) t) 16 (1 + 2 * r + 2 * t + 64) v) 16 (1 + 2 * r + 2 * t + 4 * v + 16) q = badN q v t r := by
  unfold badN
  by_cases b1 : 64 < r
  ·rw [if_pos b1, show atN 0 64 129 r = 129 from if_pos ⟨rfl, b1⟩, show atN 129 4 (1 + 2 * r + 8) t = 129 from Jka (by decide), show atN 129 16 (1 + 2 * r + 2 * t + 64) v = 129 from Jka (by decide), show atN 129 16 (1 + 2 * r + 2 * t + 4 * v + 16) q = 129 from Jka (by decide)]
  rw [if_neg b1, show atN 0 64 129 r = 0 from if_neg (by omega)]
  by_cases b2 : 4 < t
  ·rw [if_pos b2, show atN 0 4 (1 + 2 * r + 8) t = 1 + 2 * r + 8 from if_pos ⟨rfl, b2⟩, show atN (1 + 2 * r + 8) 16 (1 + 2 * r + 2 * t + 64) v = 1 + 2 * r + 8 from Jka (by omega), show atN (1 + 2 * r + 8) 16 (1 + 2 * r + 2 * t + 4 * v + 16) q = 1 + 2 * r + 8 from Jka (by omega)]
  rw [if_neg b2, show atN 0 4 (1 + 2 * r + 8) t = 0 from if_neg (by omega)]
  by_cases b3 : 16 < v
  ·rw [if_pos b3, show atN 0 16 (1 + 2 * r + 2 * t + 64) v = 1 + 2 * r + 2 * t + 64 from if_pos ⟨rfl, b3⟩, Jka (by omega)]
  rw [if_neg b3, show atN 0 16 (1 + 2 * r + 2 * t + 64) v = 0 from if_neg (by omega)]
  by_cases b4 : 16 < q
  ·rw [if_pos b4]
   exact if_pos ⟨rfl, b4⟩
  ·rw [if_neg b4]
   exact if_neg (by omega)
 rw [hat] at t10
 have hml : (rowK 1 pB ((q + v + t + r : Nat) : Int) :: ((List.range r).flatMap itR ++ ((List.range t).flatMap itT ++ ((List.range v).flatMap itV ++ (List.range q).flatMap itQ)))) = Jk5 q v t r := rfl
 rw [hml] at hL
 have hvL := hL.rows
 have hlen := JkN (q := q) (v := v) (t := t) (r := r)
 obtain ⟨hres1, hres2⟩ := Jmg (q := q) (v := v) (t := t) (r := r) (by omega) (by omega) (by omega) (by omega)
 have hgG : G4.get 0 = J14 := by rw [m3 0 hn0]; exact hg
 obtain ⟨v5, h5, hr5, pv, rfl, hp, f5, n5, o5⟩ := Jia (n := n) (h := G4) (by omega) hgG (by omega) hvL (by omega) (by omega)
 have hr5' := t_k (n := n) (by decide) hr5
 generalize Jk5 q v t r = l at *
 obtain ⟨nm, s, hout⟩ : ∃ nm s, outN l = (nm, s) := ⟨_, _, rfl⟩
 rw [hout] at hp
 simp only at hp
 obtain ⟨vr, vq, vv, vt, vu, vo, rfl, p1, p2, p3, p4, p5, p6⟩ := hp
 have oa := all8 (nm := nm) p1 p2 p3 p4 p5 p6
 obtain ⟨⟨hc6, h6⟩, s1, s2, rO, n6, f6, o6⟩ := Jlt (H := h5) (cs := [.string nm, vr, vq, vv, vt, vu, vo, iv s.miss]) (e := (resN l).1.1) (p := (resN l).1.2) rfl oa (by omega)
 simp only at s1 s2 rO n6 f6 o6
 obtain ⟨x0, x1, x2, x3, x4, x5, x6, x7⟩ := Jhw (a := .string nm) (b := vr) (c := vq) (d := vv) (e := vt) (f := vu) (g := vo) (i := iv s.miss) (ty := 30) (x := false) (y := false)
 rw [← rO.1] at x0 x1 x2 x3 x4 x5 x6 x7
 have lF : ldN 2 0 (h6.get (h5.next + 1)) = some (J2k (resN l).1.1 (resN l).1.2) := by rw [rO.2]; rfl
 have zc30 : zPol.cells.toList = [.string ByteArray.empty, .slice none 0 0, .slice none 0 0, .slice none 0 0, .slice none 0 0, .slice none 0 0, .slice none 0 0, iv 0] := rfl
 have zc33 : (J2k 0 0).cells.toList = [iv 0, iv 0] := rfl
 have hhd := JfG (n := n) (h := h6) (by rw [o6 0 (by omega), o5 0 (by omega)]; exact hgG)
 have plen1 := fun h' => JfA p1.2 h'
 have plen2 := fun h' => JfC p2 h'
 have plen3 := fun h' => JfT p3 h'
 have plen4 := fun h' => JfT p4 h'
 have plen5 := fun h' => JfF p5 h'
 have plen6 := fun h' => JfF p6 h'
 by_cases hb : 0 < badN q v t r
 ·have hb1 : decide (((badN q v t r : Nat) : Int) > 0) = true := by simp; omega
  rw [if_pos hb] at hres1
  rw [hres1] at s2 lF hr5'
  have hbad : (resN l).1.1 ≠ 0 := by rw [hres1]; exact (by decide : (3 : Int) ≠ 0)
  have hob := hout.symm.trans (Jg8 hbad)
  cases hob
  have z1 : ∀ h' : SHeap, lenS Tryd.prog h' 22 vr = some (iv 0) := fun h' => plen1 h'
  simp only [evC, seval, ↓evP, hr, t0, t1, t2, t3, t10, t9, hr5', J5F, J3Y, zc30, J3C, J1t, zc33, J1D, s1, s2, hb1, Nat.zero_add, J2n, lF, J4G, eq33, BEq.rfl, Bool.and_self, J0y, J0F, x1, z1, hhd]
 ·have hb0 : badN q v t r = 0 := by omega
  have hb1 : decide (((badN q v t r : Nat) : Int) > 0) = false := by rw [hb0]; rfl
  rw [if_neg hb] at hres1
  rw [hres1] at s2 lF hr5'
  have hok : (resN l).1.1 = 0 := by rw [hres1]
  have hgood := hout.symm.trans (JeO hok)
  obtain ⟨rfl, rfl⟩ : nm = J52 l ∧ s = (resN l).2 := by cases hgood; exact ⟨rfl, rfl⟩
  obtain ⟨e1, e2, e3, e4, e5⟩ := hres2 hb0
  rw [e1] at plen2
  rw [e2] at plen3
  rw [e3] at plen4
  rw [e4] at plen5
  rw [e5] at plen6
  simp only [evC, seval, ↓evP, hr, t0, t1, t2, t3, t10, t9, hr5', J5F, J3Y, zc30, J3C, J1t, zc33, J1D, s1, s2, hb1, Nat.zero_add, J2n, lF, J5n, eq33, BEq.rfl, Bool.and_self, J0B, J1A, J1B, J36, J1T, J0S, J0Y, J0n, x2, x3, x4, x5, x6, plen2, plen3, plen4, plen5, plen6, hhd]
end
end Go.Proofs.YtipekdhneagdbaaDoor
