/- Part 10 of what the claim leans on: 3 texts laid one behind another. -/
import Derived.Test.YtipekdhneagdbaaDoorC9
namespace Go.Proofs.YtipekdhneagdbaaDoor
open Go Go.Sx
set_option maxRecDepth 100000
set_option linter.unusedSimpArgs false
set_option linter.unusedVariables false
def J14 : SObj := .row J5v 9 false true
def J6S (w : List UInt8) : ByteArray := ⟨w.toArray⟩
def J3d (s : ByteArray) : Bool := decide (J2D.findIdx (fun w => s == J6S w) < 41)
theorem J3X : J2D.length = 41 := by decide
def J09 (s : ByteArray) : Bool := match s.data.toList with
 | [] => false
 | c :: l => decide ((c :: l).length ≤ 64) && J15 c.toNat && !J3d s && (c :: l).all fun c => J15 c.toNat || J2d c.toNat
theorem J2g {s : ByteArray} : flat (.string s) = true := rfl
theorem len9 {h : SHeap} {s : ByteArray} : lenS Tryd.prog h 9 (.string s) = some (.int .i64 s.data.toList.length) := by simp [lenS, Tryd.underlying9]
theorem J7c {s : ByteArray} {i : Nat} {b : UInt8} (hb : s.data.toList[i]? = some b) : J0k Tryd.prog (Instr.index 9 (.string s) (.int .i64 (i : Int))) = some (.int .u8 (b.toNat : Int)) := by
 have hg : s[i]? = some b := by
  obtain ⟨hl, he⟩ := List.getElem?_eq_some_iff.1 hb
  have hl' : i < s.size := by simpa using hl
  rw [getElem?_pos s i hl']
  congr 1
 unfold Instr.index
 rw [J0c]
 have e1 : J0k Tryd.prog (asIntOf (.int .i64 (i : Int))) = some (.i64, (i : Int)) := rfl
 rw [e1]
 simp only [Option.bind_some]
 rw [J0c, J1R Tryd.underlying9]
 simp only [Option.bind_some, Int.toNat_natCast]
 rw [if_pos (by omega), hg]
 rfl
theorem JeR {s : ByteArray} {b : UInt8} (hb : s.data.toList[0]? = some b) : J0k Tryd.prog (Instr.index 9 (.string s) (.int .i64 0)) = some (.int .u8 (b.toNat : Int)) := J7c (i := 0) hb
theorem JaO {s : ByteArray} : (s == ⟨#[]⟩) = s.data.toList.isEmpty := by
 cases s with
 | mk d =>
  show (d == #[]) = _
  cases d with
  | mk l => cases l <;> rfl
section
variable {call : J0r} {n : Nat} {h : SHeap} {s : ByteArray}
def idxW (s : ByteArray) : Int := if J2D.findIdx (fun w => s == J6S w) < 41 then J2D.findIdx (fun w => s == J6S w) else -1
theorem Jju {h : SHeap} {a : Option Addr} {n c : Nat} : lenS Tryd.prog h 27 (.slice a n c) = some (.int .i64 n) := by simp [lenS, Tryd.underlying27]
theorem Jis {i : Nat} (hi : i < 41) : J0R Tryd.prog 27 (.slice (some ⟨0, 0, none⟩) 41 41) (.int .i64 (i : Int)) = some (.pointer (some ⟨0, i, none⟩)) := by
 simp only [J0R, Tryd.underlying27, sz9, J0q]
 rw [if_pos (by omega)]
 simp
theorem Jck {i : Nat} (hi : i < 41) : ld1 i J14 = some (.string (J6S (J2D[i]'(by rw [J3X]; exact hi)))) := by
 simp only [J14, ld1, J5v, List.getElem?_map]
 rw [List.getElem?_eq_getElem (by rw [J3X]; exact hi)]
 rfl
set_option maxHeartbeats 4000000 in
theorem Jbh (hg : h.get 0 = J14) (hn : 41 < n) : J0L Tryd.prog call n 123 [.slice (some ⟨0, 0, none⟩) 41 41, .string s] h = some (iv (idxW s), h) := by
 refine J1m Tryd.func123 rfl (by simp [Tryd.f123]) ?_
 have hr : Tryd.f123.results.toList = [.tmp 4] := rfl
 have hle : J2D.findIdx (fun w => s == J6S w) ≤ 41 := by have := List.findIdx_le_length (xs := J2D) (p := fun w => s == J6S w); rw [J3X] at this; exact this
 simp only [evC, ↓reduceIte, Nat.reduceEqDiff, reduceCtorEq, ↓evP, rpC, Nat.reduceAdd, Nat.reduceLT, hr, Jju]
 refine WK.loop (fun i s' => s'.h = h ∧ s'.T.get 0 = .slice (some ⟨0, 0, none⟩) 41 41 ∧ s'.T.get 1 = .string s ∧ s'.T.get 7 = .int .i64 41 ∧ s'.T.get 8 = .int .i64 i) (J2D.findIdx (fun w => s == J6S w)) (by omega) ?_ ?_
 ·simp only [evC, ↓reduceIte, Nat.reduceEqDiff, reduceCtorEq, ↓evP, rpC, Nat.reduceAdd, Nat.reduceLT]
  exact ⟨rfl, rfl⟩
 ·rintro i ⟨T1, h1⟩ hi ⟨rfl, t0, t1, t7, t8⟩
  simp only at t0 t1 t7 t8
  unfold idxW
  by_cases hlt : i < J2D.findIdx (fun w => s == J6S w)
  ·have hi41 : i < 41 := by omega
   have c1 : decide ((i : Int) < 41) = true := by simp; omega
   have hne := List.not_of_lt_findIdx hlt
   have w5 : IntKind.i64.wrap ((i : Int) + 1) = ((i + 1 : Nat) : Int) := J0s (by omega) (by omega)
   simp only [evC, seval, ↓evP, rpC, t0, t1, t7, t8, c1, Jis hi41, hg, Jck hi41, hne]
   exact ⟨hlt, w5⟩
  ·have hie : i = J2D.findIdx (fun w => s == J6S w) := by omega
   by_cases h41 : i < 41
   ·have c1 : decide ((i : Int) < 41) = true := by simp; omega
    have heq : (s == J6S (J2D[i]'(by rw [J3X]; exact h41))) = true := by
     have := List.findIdx_getElem (xs := J2D) (p := fun w => s == J6S w) (w := by rw [← hie, J3X]; exact h41)
     simp only [← hie] at this
     exact this
    rw [← hie, if_pos h41]
    simp only [evC, seval, ↓evP, rpC, hr, t0, t1, t7, t8, c1, Jis h41, hg, Jck h41, heq]
   ·have c1 : decide ((i : Int) < 41) = false := by simp; omega
    rw [← hie, if_neg h41]
    simp only [evC, seval, ↓evP, rpC, hr, t0, t1, t7, t8, c1]
theorem Jg6 : decide (idxW s ≥ 0) = J3d s := by
 unfold idxW J3d
 split
 ·rename_i h
  rw [decide_eq_true h, decide_eq_true (by omega)]
 ·rename_i h
  rw [decide_eq_false h]
  rfl
theorem J7A (h123 : call 123 [.slice (some ⟨0, 0, none⟩) 41 41, .string s] h = some (iv (idxW s), h)) : J0L Tryd.prog call n 117 [.slice (some ⟨0, 0, none⟩) 41 41, .string s] h = some (.bool (J3d s), h) := by
 refine J1m Tryd.func117 rfl (by simp [Tryd.f117]) ?_
 have hr : Tryd.f117.results.toList = [.tmp 4] := rfl
 simp only [evC, seval, ↓evP, rpC, hr, h123, Jg6]
theorem J9c : J2M Tryd.prog h 145 (.pointer (some ⟨0, 0, none⟩)) none none none = some (.slice (some ⟨0, 0, none⟩) 41 41) := by
 simp [J2M, Tryd.underlying145, J3a, sz9, J0q]
theorem JgS (h117 : call 117 [.slice (some ⟨0, 0, none⟩) 41 41, .string s] h = some (.bool (J3d s), h)) : J0L Tryd.prog call n 106 [.string s] h = some (.bool (J3d s), h) := by
 refine J1m Tryd.func106 rfl (by simp [Tryd.f106]) ?_
 have hr : Tryd.f106.results.toList = [.tmp 2] := rfl
 simp only [evC, seval, ↓evP, rpC, hr, JdT, J9c, h117]
theorem Jim {p : UInt8 → Bool} {c : UInt8} {l : List UInt8} : (c :: l).all p = (p c && l.all p) := rfl
set_option maxHeartbeats 8000000 in
theorem J9w (h105 : ∀ (b : UInt8) h, call 105 [.int .u8 (b.toNat : Int)] h = some (.bool (J15 b.toNat), h)) (h107 : ∀ (b : UInt8) h, call 107 [.int .u8 (b.toNat : Int)] h = some (.bool (J2d b.toNat), h))
  (h106 : call 106 [.string s] h = some (.bool (J3d s), h)) (hn : 64 < n) : J0L Tryd.prog call n 91 [.string s] h = some (.bool (J09 s), h) := by
 refine J1m Tryd.func91 rfl (by simp [Tryd.f91]) ?_
 have hr : Tryd.f91.results.toList = [.tmp 2] := rfl
 unfold J09
 cases hl : s.data.toList with
 | nil =>
  have e0 : (s == ⟨#[]⟩) = true := by rw [JaO, hl]; rfl
  simp only [evC, seval, ↓evP, rpC, hr, e0]
 | cons c l =>
  have e0 : (s == ⟨#[]⟩) = false := by rw [JaO, hl]; rfl
  have i0 := JeR (s := s) (b := c) (by rw [hl]; rfl)
  simp only
  generalize hA : (c :: l).all (fun c => J15 c.toNat || J2d c.toNat) = A
  by_cases hlen : (c :: l).length ≤ 64
  ·have d1 : decide (((c :: l).length : Int) > 64) = false := by simp only [decide_eq_false_iff_not]; omega
   cases hc : J15 c.toNat with
   | false => simp only [evC, seval, ↓evP, rpC, hr, e0, len9, hl, d1, J2g, i0, h105, hc, Bool.and_false, Bool.false_and]
   | true =>
    cases hw : J3d s with
    | true => simp only [evC, seval, ↓evP, rpC, hr, e0, len9, hl, d1, J2g, i0, h105, hc, h106, hw, Bool.and_false, Bool.false_and]
    | false =>
     simp only [evC, ↓reduceIte, Nat.reduceEqDiff, reduceCtorEq, ↓evP, rpC, Nat.reduceAdd, Nat.reduceLT, hr, e0, len9, hl, d1, J2g, i0, h105, hc, h106, hw, decide_eq_true hlen]
     rw [← hl] at *
     generalize hL : s.data.toList = L at *
     refine WK.loop (fun i s' => s'.h = h ∧ s'.T.get 0 = .string s ∧ s'.T.get 22 = .int .i64 L.length ∧ s'.T.get 23 = .int .i64 i ∧ (L.take i).all (fun c => J15 c.toNat || J2d c.toNat) = true) L.length (by omega) ?_ ?_
     ·simp only [evC, ↓reduceIte, Nat.reduceEqDiff, reduceCtorEq, ↓evP, rpC, Nat.reduceAdd, Nat.reduceLT]
      exact ⟨rfl, rfl⟩
     ·rintro i ⟨T1, h1⟩ hi ⟨rfl, t0, t22, t23, hall⟩
      simp only at t0 t22 t23
      by_cases hlt : i < L.length
      ·have c1 : decide ((i : Int) < (L.length : Int)) = true := by simp; omega
       obtain ⟨b, hb⟩ : ∃ b, L[i]? = some b := ⟨_, List.getElem?_eq_getElem hlt⟩
       have ib := J7c (s := s) (i := i) (b := b) (by rw [hL]; exact hb)
       have w5 : IntKind.i64.wrap ((i : Int) + 1) = ((i + 1 : Nat) : Int) := J0s (by omega) (by omega)
       have hst : (L.take (i + 1)).all (fun c => J15 c.toNat || J2d c.toNat) = ((L.take i).all (fun c => J15 c.toNat || J2d c.toNat) && (J15 b.toNat || J2d b.toNat)) := by
        rw [List.take_add_one, hb, List.all_append]
        simp
       have hbad : (J15 b.toNat || J2d b.toNat) = false → L.all (fun c => J15 c.toNat || J2d c.toNat) = false := fun h => by
        rw [List.all_eq_false]
        exact ⟨b, List.mem_of_getElem? hb, by rw [h]; simp⟩
       cases q1 : J15 b.toNat with
       | true =>
        simp only [evC, seval, ↓evP, rpC, hr, t0, t22, t23, c1, J2g, ib, h105, q1]
        exact ⟨hlt, w5, by rw [hst, hall, q1]; rfl⟩
       | false =>
        cases q2 : J2d b.toNat with
        | true =>
         simp only [evC, seval, ↓evP, rpC, hr, t0, t22, t23, c1, J2g, ib, h105, h107, q1, q2]
         exact ⟨hlt, w5, by rw [hst, hall, q1, q2]; rfl⟩
        | false =>
         simp only [evC, seval, ↓evP, rpC, hr, t0, t22, t23, c1, J2g, ib, h105, h107, q1, q2]
         rw [← hA, hbad (by rw [q1, q2]; rfl)]
      ·have c1 : decide ((i : Int) < (L.length : Int)) = false := by simp; omega
       rw [List.take_of_length_le (by omega)] at hall
       rw [hall] at hA
       subst hA
       simp only [evC, seval, ↓evP, rpC, hr, t0, t22, t23, c1]
  ·have d1 : decide (((c :: l).length : Int) > 64) = true := by simp only [decide_eq_true_eq]; omega
   simp only [evC, seval, ↓evP, rpC, hr, e0, len9, hl, d1, decide_eq_false hlen, Bool.false_and]
def J4i (l : List UInt8) : Bool := match l with
 | [] => false
 | c :: r => J15 c.toNat && (c :: r).all fun c => J15 c.toNat || J2d c.toNat
set_option maxHeartbeats 8000000 in
theorem J9i (h124 : ∀ (b : UInt8) h, call 124 [.int .u8 (b.toNat : Int)] h = some (.bool (J15 b.toNat), h)) (h125 : ∀ (b : UInt8) h, call 125 [.int .u8 (b.toNat : Int)] h = some (.bool (J2d b.toNat), h))
  (hn : s.data.toList.length < n) (hmax : s.data.toList.length < 1000) : J0L Tryd.prog call n 121 [.string s] h = some (.bool (J4i s.data.toList), h) := by
 refine J1m Tryd.func121 rfl (by simp [Tryd.f121]) ?_
 have hr : Tryd.f121.results.toList = [.tmp 2] := rfl
 simp only [evC, ↓reduceIte, Nat.reduceEqDiff, reduceCtorEq, ↓evP, rpC, Nat.reduceAdd, Nat.reduceLT, hr]
 generalize hL : s.data.toList = L at *
 generalize hA : J4i L = A
 refine WK.loop (fun i s' => s'.h = h ∧ s'.T.get 0 = .string s ∧ s'.T.get 3 = .int .i64 i ∧ (L.take i).all (fun c => J15 c.toNat || J2d c.toNat) = true ∧ (0 < i → ∃ c r, L = c :: r ∧ J15 c.toNat = true)) L.length (by omega) ?_ ?_
 ·simp only [evC, ↓reduceIte, Nat.reduceEqDiff, reduceCtorEq, ↓evP, rpC, Nat.reduceAdd, Nat.reduceLT]
  exact ⟨rfl, rfl⟩
 ·rintro i ⟨T1, h1⟩ hi ⟨rfl, t0, t3, hall, hhd⟩
  simp only at t0 t3
  by_cases hlt : i < L.length
  ·have c1 : decide ((i : Int) < (L.length : Int)) = true := by simp; omega
   obtain ⟨b, hb⟩ : ∃ b, L[i]? = some b := ⟨_, List.getElem?_eq_getElem hlt⟩
   have ib := J7c (s := s) (i := i) (b := b) (by rw [hL]; exact hb)
   have w5 : IntKind.i64.wrap ((i : Int) + 1) = ((i + 1 : Nat) : Int) := J0s (by omega) (by omega)
   have hst : (L.take (i + 1)).all (fun c => J15 c.toNat || J2d c.toNat) = ((L.take i).all (fun c => J15 c.toNat || J2d c.toNat) && (J15 b.toNat || J2d b.toNat)) := by
    rw [List.take_add_one, hb, List.all_append]
    simp
   cases q1 : J15 b.toNat with
   | true =>
    simp only [evC, ↓reduceIte, Nat.reduceEqDiff, reduceCtorEq, ↓evP, rpC, Nat.reduceAdd, Nat.reduceLT, hr, t0, t3, len9, hL, c1, J2g, ib, h124, q1]
    refine ⟨hlt, w5, by rw [hst, hall, q1]; rfl, fun _ => ?_⟩
    by_cases hi0 : i = 0
    ·subst hi0
     cases L with
     | nil => simp at hlt
     | cons c r => simp at hb; subst hb; exact ⟨_, _, rfl, q1⟩
    ·exact hhd (by omega)
   | false =>
    by_cases hi0 : i = 0
    ·subst hi0
     have e0 : (((0 : Nat) : Int) == 0) = true := rfl
     have hf : A = false := by
      rw [← hA]
      cases L with
      | nil => simp at hlt
      | cons c r => simp at hb; subst hb; simp [J4i, q1]
     simp only [evC, ↓reduceIte, Nat.reduceEqDiff, reduceCtorEq, ↓evP, rpC, Nat.reduceAdd, Nat.reduceLT, hr, t0, t3, len9, hL, c1, J2g, ib, h124, q1, e0, hf]
    ·have e0 : ((i : Int) == 0) = false := by simp; omega
     cases q2 : J2d b.toNat with
     | true =>
      simp only [evC, seval, ↓evP, rpC, hr, t0, t3, len9, hL, c1, J2g, ib, h124, h125, q1, q2, e0]
      exact ⟨hlt, w5, by rw [hst, hall, q1, q2]; rfl, fun _ => hhd (by omega)⟩
     | false =>
      have hf : A = false := by
       rw [← hA]
       obtain ⟨c, r, rfl, hc⟩ := hhd (by omega)
       have : (c :: r).all (fun c => J15 c.toNat || J2d c.toNat) = false := by
        rw [List.all_eq_false]
        exact ⟨b, List.mem_of_getElem? hb, by rw [q1, q2]; simp⟩
       show (J15 c.toNat && (c :: r).all fun c => J15 c.toNat || J2d c.toNat) = false
       rw [this, Bool.and_false]
      simp only [evC, seval, ↓evP, rpC, hr, t0, t3, len9, hL, c1, J2g, ib, h124, h125, q1, q2, e0, hf]
  ·have c1 : decide ((i : Int) < (L.length : Int)) = false := by simp; omega
   rw [List.take_of_length_le (by omega)] at hall
   have hf : A = decide ((L.length : Int) > 0) := by
    rw [← hA]
    cases L with
    | nil => rfl
    | cons c r =>
     obtain ⟨c', r', he, hc⟩ := hhd (by simp at hlt; omega)
     cases he
     show (J15 c.toNat && (c :: r).all fun c => J15 c.toNat || J2d c.toNat) = _
     rw [hall, hc]
     simp
     try omega
   simp only [evC, seval, ↓evP, rpC, hr, t0, t3, len9, hL, c1, hf]
def hitB (K s : ByteArray) (i : Nat) : Bool := (K.data.toList[i]? == some 32) && ((K.data.toList[i + s.data.toList.length + 1]? == some 32) && (K.extract (i + 1) (i + s.data.toList.length + 1) == s))
def Jay (K s : ByteArray) : Bool := decide ((List.range (K.data.toList.length - (s.data.toList.length + 1))).findIdx (hitB K s) < K.data.toList.length - (s.data.toList.length + 1))
theorem Jit {h : SHeap} {K : ByteArray} {lo hi : Nat} (h1 : lo ≤ hi) (h2 : hi ≤ K.data.toList.length) : J2M Tryd.prog h 9 (.string K) (some (.int .i64 (lo : Int))) (some (.int .i64 (hi : Int))) none = some (.string (K.extract lo hi)) := by
 have hs : K.size = K.data.toList.length := by simp
 simp only [J2M, Tryd.underlying9, Option.isSome_none, Bool.false_eq_true, if_false, J3a, hs]
 rw [if_pos (by omega)]
 simp only [Int.toNat_natCast]
 rw [if_pos (by omega)]
set_option maxHeartbeats 8000000 in
theorem Jb9 {K : ByteArray} (hK : K.data.toList.length < 900) (hn : K.data.toList.length + s.data.toList.length < n) (hmax : s.data.toList.length < 1000) (hne : s.data.toList ≠ []) (hb : ∀ b ∈ s.data.toList, b ≠ 32) :
  J0L Tryd.prog call n 126 [.string K, .string s] h = some (.bool (Jay K s), h) := by
 refine J1m Tryd.func126 rfl (by simp [Tryd.f126]) ?_
 have hr : Tryd.f126.results.toList = [.tmp 4] := rfl
 have hpos : 0 < s.data.toList.length := List.length_pos_iff.2 hne
 have w0 : IntKind.i64.wrap ((s.data.toList.length : Int) + 2) = ((s.data.toList.length + 2 : Nat) : Int) := J0s (by omega) (by omega)
 simp only [evC, ↓reduceIte, Nat.reduceEqDiff, reduceCtorEq, ↓evP, rpC, Nat.reduceAdd, Nat.reduceLT, hr, len9, w0]
 generalize hL : s.data.toList = L at *
 refine WK.loop (fun i s' => s'.h = h ∧ s'.T.get 0 = .string K ∧ s'.T.get 1 = .string s ∧ s'.T.get 5 = .int .i64 ((L.length + 2 : Nat) : Int) ∧ s'.T.get 6 = .int .i64 i) L.length (by omega) ?_ ?_
 ·simp only [evC, ↓reduceIte, Nat.reduceEqDiff, reduceCtorEq, ↓evP, rpC, Nat.reduceAdd, Nat.reduceLT]
  rfl
 ·rintro i ⟨T1, h1⟩ hi ⟨rfl, t0, t1, t5, t6⟩
  simp only at t0 t1 t5 t6
  by_cases hlt : i < L.length
  ·have c1 : decide ((i : Int) < (L.length : Int)) = true := by simp; omega
   obtain ⟨b, hbi⟩ : ∃ b, L[i]? = some b := ⟨_, List.getElem?_eq_getElem hlt⟩
   have ib := J7c (s := s) (i := i) (b := b) (by rw [hL]; exact hbi)
   have hb32 : ((b.toNat : Int) == 32) = false := by
    have hx := hb b (List.mem_of_getElem? hbi)
    simp only [beq_eq_false_iff_ne, ne_eq]
    intro e
    apply hx
    have e2 : b.toNat = 32 := by omega
    exact UInt8.toNat_inj.1 e2
   have w5 : IntKind.i64.wrap ((i : Int) + 1) = ((i + 1 : Nat) : Int) := J0s (by omega) (by omega)
   simp only [evC, seval, ↓evP, rpC, hr, t0, t1, t5, t6, len9, hL, c1, J2g, ib, hb32]
   exact ⟨hlt, w5⟩
  ·have c1 : decide ((i : Int) < (L.length : Int)) = false := by simp; omega
   simp only [evC, seval, ↓evP, rpC, hr, t0, t1, t5, t6, len9, hL, c1]
   unfold Jay
   rw [hL]
   generalize hN : K.data.toList.length - (L.length + 1) = N at *
   have hle : (List.range N).findIdx (hitB K s) ≤ N := by have := List.findIdx_le_length (xs := List.range N) (p := hitB K s); simpa using this
   generalize hq : (List.range N).findIdx (hitB K s) = q at *
   refine WK.loop (fun i s' => s'.h = h1 ∧ s'.T.get 0 = .string K ∧ s'.T.get 1 = .string s ∧ s'.T.get 5 = .int .i64 ((L.length + 2 : Nat) : Int) ∧ s'.T.get 7 = .int .i64 i) q (by omega) ?_ ?_
   ·simp only [evC, ↓reduceIte, Nat.reduceEqDiff, reduceCtorEq, ↓evP, rpC, Nat.reduceAdd, Nat.reduceLT, t0, t1, t5]
    rfl
   ·rintro j ⟨T2, h2⟩ hj ⟨rfl, u0, u1, u5, u7⟩
    simp only at u0 u1 u5 u7
    have w1 : IntKind.i64.wrap ((j : Int) + ((L.length + 2 : Nat) : Int)) = ((j + L.length + 2 : Nat) : Int) := by rw [J0s (by omega) (by omega)]; omega
    have w2 : IntKind.i64.wrap (((j + L.length + 2 : Nat) : Int) - 1) = ((j + L.length + 1 : Nat) : Int) := by rw [J0s (by omega) (by omega)]; omega
    have w3 : IntKind.i64.wrap ((j : Int) + 1) = ((j + 1 : Nat) : Int) := J0s (by omega) (by omega)
    by_cases hjN : j < N
    ·have c2 : decide (((j + L.length + 2 : Nat) : Int) ≤ (K.data.toList.length : Int)) = true := by simp only [decide_eq_true_eq]; omega
     obtain ⟨b1, hb1⟩ : ∃ b, K.data.toList[j]? = some b := ⟨_, List.getElem?_eq_getElem (by omega)⟩
     obtain ⟨b2, hb2⟩ : ∃ b, K.data.toList[j + L.length + 1]? = some b := ⟨_, List.getElem?_eq_getElem (by omega)⟩
     have i1 := J7c hb1
     have i2 := J7c hb2
     have s1 := Jit (h := h2) (K := K) (lo := j + 1) (hi := j + L.length + 1) (by omega) (by omega)
     have x32 : ∀ b : UInt8, ((b.toNat : Int) == 32) = (some b == some (32 : UInt8)) := fun b => by
      apply Bool.eq_iff_iff.2
      simp only [beq_iff_eq, Option.some.injEq]
      constructor
      ·intro e; exact UInt8.toNat_inj.1 (by have : b.toNat = 32 := by omega
                                            exact this)
      ·rintro rfl; rfl
     have hhit : hitB K s j = ((some b1 == some (32 : UInt8)) && ((some b2 == some (32 : UInt8)) && (K.extract (j + 1) (j + L.length + 1) == s))) := by
      unfold hitB
      rw [hL, hb1, hb2]
     have done : j < q → hitB K s j = false := fun hjq => by
      have := List.not_of_lt_findIdx (xs := List.range N) (p := hitB K s) (i := j) (by rw [hq]; exact hjq)
      simpa using this
     have found : ¬ j < q → hitB K s j = true := fun hjq => by
      have hjq' : j = q := by omega
      have := List.findIdx_getElem (xs := List.range N) (p := hitB K s) (w := by rw [hq]; simp; omega)
      simp only [hq, List.getElem_range] at this
      rw [hjq']
      exact this
     have fin : ¬ j < q → decide (q < N) = true := fun _ => decide_eq_true (by omega)
     rw [hhit] at done found
     cases d1 : (some b1 == some (32 : UInt8)) with
     | false =>
      have hlt : j < q := by
       rcases Nat.lt_or_ge j q with h | h
       ·exact h
       ·have := found (by omega); rw [d1] at this; cases this
      simp only [evC, seval, ↓evP, rpC, hr, u0, u1, u5, u7, len9, w1, c2, J2g, i1, x32, d1]
      exact ⟨hlt, w3⟩
     | true =>
      cases d2 : (some b2 == some (32 : UInt8)) with
      | false =>
       have hlt : j < q := by
        rcases Nat.lt_or_ge j q with h | h
        ·exact h
        ·have := found (by omega); rw [d1, d2] at this; cases this
       simp only [evC, seval, ↓evP, rpC, hr, u0, u1, u5, u7, len9, w1, w2, c2, J2g, i1, i2, x32, d1, d2]
       exact ⟨hlt, w3⟩
      | true =>
       cases d3 : (K.extract (j + 1) (j + L.length + 1) == s) with
       | false =>
        have hlt : j < q := by
         rcases Nat.lt_or_ge j q with h | h
         ·exact h
         ·have := found (by omega); rw [d1, d2, d3] at this; cases this
        simp only [evC, seval, ↓evP, rpC, hr, u0, u1, u5, u7, len9, w1, w2, w3, c2, J2g, i1, i2, x32, d1, d2, s1, d3]
        exact hlt
       | true =>
        have hge : ¬ j < q := fun h => by have := done h; rw [d1, d2, d3] at this; cases this
        have l0 : decide ((L.length : Int) > 0) = true := by simp; omega
        simp only [evC, seval, ↓evP, rpC, hr, u0, u1, u5, u7, len9, hL, w1, w2, w3, c2, J2g, i1, i2, x32, d1, d2, s1, d3, fin hge, l0]
    ·have c2 : decide (((j + L.length + 2 : Nat) : Int) ≤ (K.data.toList.length : Int)) = false := by simp only [decide_eq_false_iff_not]; omega
     have fin : decide (q < N) = false := decide_eq_false (by omega)
     simp only [evC, seval, ↓evP, rpC, hr, u0, u1, u5, u7, len9, w1, c2, fin]
end
def J4Z : List UInt8 := 32 :: J2D.flatMap fun w => w ++ [32]
def JgU : ByteArray := ⟨J4Z.toArray⟩
theorem J3y : JgU.data.toList = J4Z := rfl
def seg (i : Nat) : List UInt8 := (J4Z.drop (i + 1)).takeWhile (· != 32)
theorem Jho : ((List.range J4Z.length).all fun i => !(J4Z[i]? == some 32) || decide (i + 1 = J4Z.length) || J2D.contains (seg i)) = true := by decide +kernel
theorem JhT : (J2D.all fun w => (List.range J4Z.length).any fun i => (J4Z[i]? == some 32) && ((J4Z[i + w.length + 1]? == some 32) && ((J4Z.drop (i + 1)).take w.length == w))) = true := by decide +kernel
theorem J3L {a b : ByteArray} : (a == b) = true ↔ a.data.toList = b.data.toList := by
 constructor
 ·intro h; rw [J3o h]
 ·intro h
  have : a = b := by
   cases a; cases b
   simp only [ByteArray.mk.injEq]
   exact Array.toList_inj.1 h
  subst this
  exact J34 a
theorem JbD {s : ByteArray} : J3d s = true ↔ s.data.toList ∈ J2D := by
 unfold J3d
 rw [decide_eq_true_eq]
 have h41 : (41 : Nat) = J2D.length := J3X.symm
 rw [h41, List.findIdx_lt_length]
 constructor
 ·rintro ⟨w, hw, h⟩
  rw [J3L] at h
  rw [h]
  exact hw
 ·intro h
  exact ⟨_, h, by rw [J3L]; rfl⟩
theorem J5W {K : ByteArray} {lo n : Nat} : (K.extract lo (lo + n)).data.toList = (K.data.toList.drop lo).take n := by
 rw [ByteArray.data_extract]
 simp [List.extract_eq_take_drop]
theorem J7V {l m : List UInt8} {x : List UInt8} (h1 : (m.take l.length) = l) (h2 : m[l.length]? = some 32) (h3 : ∀ b ∈ l, b ≠ 32) : m.takeWhile (· != 32) = l := by
 have hm : m = l ++ 32 :: m.drop (l.length + 1) := by
  have hlt : l.length < m.length := (List.getElem?_eq_some_iff.1 h2).1
  have e1 : m = m.take l.length ++ m.drop l.length := (List.take_append_drop _ _).symm
  rw [h1, List.drop_eq_getElem_cons hlt] at e1
  have e2 : m[l.length] = 32 := by
   have := List.getElem?_eq_getElem hlt
   rw [h2] at this
   exact (Option.some.inj this).symm
  rw [e2] at e1
  exact e1
 rw [hm, List.takeWhile_append_of_pos (fun b hb => by simpa using h3 b hb)]
 simp
theorem Jch {p : Nat → Bool} {M : Nat} : (List.range M).findIdx p < M ↔ ∃ i, i < M ∧ p i = true := by
 have := List.findIdx_lt_length (xs := List.range M) (p := p)
 rw [List.length_range] at this
 rw [this]
 simp [List.mem_range]
theorem J8T {s : ByteArray} (hne : s.data.toList ≠ []) (hb : ∀ b ∈ s.data.toList, b ≠ 32) : Jay JgU s = J3d s := by
 apply Bool.eq_iff_iff.2
 rw [JbD]
 unfold Jay
 rw [decide_eq_true_eq, J3y]
 generalize hl : s.data.toList = l at *
 rw [Jch]
 constructor
 ·rintro ⟨i, hi, hh⟩
  unfold hitB at hh
  rw [hl, J3y] at hh
  simp only [Bool.and_eq_true] at hh
  obtain ⟨h1, h2, h3⟩ := hh
  rw [J3L, hl, show i + l.length + 1 = (i + 1) + l.length by omega, J5W, J3y] at h3
  have hseg : seg i = l := by
   unfold seg
   refine J7V (x := []) h3 ?_ hb
   rw [List.getElem?_drop]
   have : i + 1 + l.length = i + l.length + 1 := by omega
   rw [this]
   simpa using h2
  have hlt : i < J4Z.length := by omega
  have := List.all_eq_true.1 Jho i (List.mem_range.2 hlt)
  rw [hseg] at this
  simp only [Bool.or_eq_true, Bool.not_eq_true', decide_eq_true_eq] at this
  rcases this with (h | h) | h
  ·rw [h] at h1; cases h1
  ·have : i + l.length + 1 < J4Z.length := by
    have := (List.getElem?_eq_some_iff.1 (show J4Z[i + l.length + 1]? = some 32 by simpa using h2)).1
    exact this
   omega
  ·simpa using h
 ·intro h
  have := List.all_eq_true.1 JhT l h
  obtain ⟨i, hi, hh⟩ := List.any_eq_true.1 this
  simp only [Bool.and_eq_true] at hh
  obtain ⟨h1, h2, h3⟩ := hh
  have hlt : i + l.length + 1 < J4Z.length := (List.getElem?_eq_some_iff.1 (show J4Z[i + l.length + 1]? = some 32 by simpa using h2)).1
  refine ⟨i, by omega, ?_⟩
  unfold hitB
  rw [hl, J3y, h1, h2]
  simp only [Bool.true_and]
  rw [J3L, hl, show i + l.length + 1 = (i + 1) + l.length by omega, J5W, J3y]
  simpa using h3
theorem JeI : J4Z.length < 900 := by decide
theorem J9d {s : ByteArray} (h : J4i s.data.toList = true) : s.data.toList ≠ [] ∧ ∀ b ∈ s.data.toList, b ≠ 32 := by
 cases hl : s.data.toList with
 | nil => rw [hl] at h; cases h
 | cons c r =>
  rw [hl] at h
  refine ⟨by simp, fun b hb e => ?_⟩
  have h2 := (Bool.and_eq_true_iff.1 (show (J15 c.toNat && (c :: r).all fun c => J15 c.toNat || J2d c.toNat) = true from h)).2
  have := List.all_eq_true.1 h2 b hb
  rw [e] at this
  revert this
  decide
theorem J72 {s : ByteArray} : J09 s = (decide (s.data.toList.length ≤ 64) && (J4i s.data.toList && !J3d s)) := by
 unfold J09 J4i
 cases hl : s.data.toList with
 | nil => simp
 | cons c r =>
  simp only
  cases J15 c.toNat <;> cases J3d s <;> cases (c :: r).all (fun c => J15 c.toNat || J2d c.toNat) <;> simp
noncomputable def argK : Value := match (J18 Tryd.f122 1)[1]? with
 | some o => match o.op with
  | .call c => match (c.args.toList.head? : Option Operand) with
   | some (Operand.const v) => v
   | _ => undef
  | _ => undef
 | none => undef
theorem JgO : argK = .string JgU := by kernel_rfl
section
variable {call : J0r} {n : Nat} {h : SHeap} {s : ByteArray}
theorem JeY (h126 : call 126 [argK, .string s] h = some (.bool (J3d s), h)) : J0L Tryd.prog call n 122 [.string s] h = some (.bool (J3d s), h) := by
 refine J1m Tryd.func122 rfl (by simp [Tryd.f122]) ?_
 have hr : Tryd.f122.results.toList = [.tmp 2] := rfl
 simp only [evC, seval, ↓evP, rpC, hr]
 refine WKR.of (v := .bool (J3d s)) (h' := h) h126 ?_
 simp only [evC, seval, ↓evP, rpC, hr]
theorem J8x (h121 : s.data.toList.length ≤ 64 → call 121 [.string s] h = some (.bool (J4i s.data.toList), h)) (h122 : s.data.toList.length ≤ 64 → J4i s.data.toList = true → call 122 [.string s] h = some (.bool (J3d s), h)) :
  J0L Tryd.prog call n 114 [.string s] h = some (.bool (J09 s), h) := by
 refine J1m Tryd.func114 rfl (by simp [Tryd.f114]) ?_
 have hr : Tryd.f114.results.toList = [.tmp 2] := rfl
 rw [J72]
 by_cases hlen : s.data.toList.length ≤ 64
 ·have c1 : decide ((s.data.toList.length : Int) ≤ 64) = true := by simp only [decide_eq_true_eq]; omega
  have h121' := h121 hlen
  rw [decide_eq_true hlen]
  cases hs : J4i s.data.toList with
  | false => rw [hs] at h121'; simp only [evC, seval, ↓evP, rpC, hr, len9, c1, h121', Bool.false_and]
  | true =>
   have h122' := h122 hlen hs
   rw [hs] at h121'
   simp only [evC, seval, ↓evP, rpC, hr, len9, c1, h121', h122']
 ·have c1 : decide ((s.data.toList.length : Int) ≤ 64) = false := by simp only [decide_eq_false_iff_not]; omega
  rw [decide_eq_false hlen]
  simp only [evC, seval, ↓evP, rpC, hr, len9, c1, Bool.false_and]
end
noncomputable def L0 : J0r := layD [90, 118, 109, 79, 81, 82, 31, 32, 59,
 116, 113, 112, 101, 102, 115, 99, 93, 105, 107,
 124, 125, 89] noS 12
noncomputable def L1 : J0r := layD [108, 104, 111, 80, 87, 83, 62] L0 12
noncomputable def L2 : J0r := layK [91, 114] L1 2000
theorem Jjp : J1x Tryd.prog L0 ∧ J1G L0 := J9p Jhq
theorem JjM : J1x Tryd.prog L1 ∧ J1G L1 := J9p Jjp
theorem Jjr : J1x Tryd.prog L2 ∧ J1G L2 := Jh4 JjM
theorem Jcv (b : UInt8) (h : SHeap) : L1 105 [.int .u8 (b.toNat : Int)] h = some (.bool (J15 b.toNat), h) := J1M (J0I rfl rfl rfl rfl (J4Q Jbr b))
theorem Jf2 (b : UInt8) (h : SHeap) : L1 107 [.int .u8 (b.toNat : Int)] h = some (.bool (J2d b.toNat), h) := J1M (J0I rfl rfl rfl rfl (J4Q JdJ b))
theorem Jb6 (b : UInt8) (h : SHeap) : L1 124 [.int .u8 (b.toNat : Int)] h = some (.bool (J15 b.toNat), h) := J1M (J0I rfl rfl rfl rfl (J4Q J9N b))
theorem Jds (b : UInt8) (h : SHeap) : L1 125 [.int .u8 (b.toNat : Int)] h = some (.bool (J2d b.toNat), h) := J1M (J0I rfl rfl rfl rfl (J4Q Jcb b))
theorem J9I (what kind : Int) (h : SHeap) : L1 89 [iv what, iv kind] h = some (.bool (J1l what kind), h) := J1M (J0I rfl rfl rfl rfl ⟨_, Jdb⟩)
theorem J94 {h : SHeap} (hg : h.get 0 = J14) (s : ByteArray) : L2 91 [.string s] h = some (.bool (J09 s), h) := by
 refine Jap rfl rfl rfl ⟨h, J9w (fun b h => J55 (Jcv b h)) (fun b h => J55 (Jf2 b h)) ?_ (by decide), fun _ _ => rfl⟩
 rw [J4u (n := 1999) rfl]
 refine JgS ?_
 rw [J4u (n := 1998) rfl]
 refine J7A ?_
 rw [J4u (n := 1997) rfl]
 exact Jbh hg (by decide)
theorem JbH (h : SHeap) (s : ByteArray) : L2 114 [.string s] h = some (.bool (J09 s), h) := by
 refine Jap rfl rfl rfl ⟨h, J8x (fun hl => ?_) (fun hl hs => ?_), fun _ _ => rfl⟩
 ·rw [J4u (n := 1999) rfl]
  exact J9i (fun b h => J55 (Jb6 b h)) (fun b h => J55 (Jds b h)) (by omega) (by omega)
 ·obtain ⟨n1, n2⟩ := J9d hs
  rw [J4u (n := 1999) rfl]
  refine JeY ?_
  rw [JgO, J4u (n := 1998) rfl, ← J8T n1 n2]
  have := JeI
  exact Jb9 (by rw [J3y]; exact this) (by rw [J3y]; omega) (by omega) n1 n2
noncomputable def J9n : Array Oper := J18 Tryd.f73 3
noncomputable def J0M : Array Oper := J18 Tryd.f73 4
def Jhv : List (Bool × Bool × List Operand) := [(true, true, []), (true, true, []), (true, true, []), (true, true, []), (false, true, [.tmp 31]), (false, true, [.tmp 31]), (false, true, [.tmp 31]), (false, true, [.tmp 31]), (false, true, [.tmp 31]), (false, true, [.tmp 31]), (true, true, [.tmp 31, .tmp 36]), (true, true, [.tmp 31, .tmp 36]), (false, false, []), (false, false, [])]
def J6P : List (Bool × Bool × List Operand) := [(false, true, []), (false, true, []), (false, true, []), (true, true, [.tmp 39]), (true, true, [.tmp 39]), (false, false, []), (false, false, []), (false, false, []), (false, false, []), (false, false, []), (false, false, []), (false, false, []), (false, false, []), (false, false, []), (false, false, []), (false, false, []), (false, false, []), (false, false, []), (false, false, []), (false, false, []), (false, false, []), (false, false, []), (false, false, []), (false, false, []), (false, false, []), (false, false, []), (false, false, []), (false, false, []), (false, false, []), (false, false, []), (false, false, []), (false, false, []), (false, false, []), (false, false, []), (false, false, []), (false, false, []), (false, false, []), (false, false, []), (false, false, []), (false, false, []), (false, false, []), (false, false, []), (false, false, []), (false, false, []), (false, false, []), (false, false, []), (false, false, []), (false, false, []), (false, false, [])]
theorem J8D : J1E J9n = Jhv := by kernel_rfl
theorem J8v : J1E J0M = J6P := by kernel_rfl
theorem J03 {T : Tr} {d t b : Nat} {v : Value} (hd : b ≤ d) (ht : t < b) : (T.put (some d) v).get t = T.get t := by
 rw [Tr.get_put, if_neg]
 intro e
 have : d = t := Option.some.inj e
 omega
section
variable {call : J0r} {n start a b : Nat} {T : Tr} {h : SHeap} {k : Kont} {x : RowN} {nm en nu : Bool} {le mo : Int} {ga0 gb0 : Bool}
 (hsn : J1G call) (t8 : T.get 8 = .pointer (some ⟨a, 0, none⟩)) (t9 : T.get 9 = .pointer (some ⟨b, 0, none⟩)) (ga : h.get a = .row [.int .i64 x.kind, .string x.name, .int .i64 x.ends, .int .i64 x.n, .int .i64 x.kids] 46 ga0 false)
 (gb : h.get b = .row [.bool nm, .bool en, .bool nu, .int .i64 le, .int .i64 mo] 123 gb0 false) (hb : (b < start) = True)
include hsn t8 t9 ga gb hb
set_option maxHeartbeats 16000000 in
theorem ph1 (h91 : ∀ h', h'.get 0 = h.get 0 → call 91 [.string x.name] h' = some (.bool (J09 x.name), h'))
  (hk : ∀ T', T'.get 54 = .bool ((J09 x.name == nm) && (nm || x.name == ⟨#[]⟩)) → (∀ t : Nat, t < 39 → T'.get t = T.get t) → WKF Tryd.prog call n J0M start (J6P.drop 16) (J0M.toList.drop 16) ⟨T', h⟩ k) : WKF Tryd.prog call n J0M start (J6P.drop 0) (J0M.toList.drop 0) ⟨T, h⟩ k := by
 have gd6 : (J0M[6]?).bind (·.dst) = some 45 := by kernel_rfl
 have gd9 : (J0M[9]?).bind (·.dst) = some 48 := by kernel_rfl
 have gd15 : (J0M[15]?).bind (·.dst) = some 54 := by kernel_rfl
 have gd19 : (J0M[19]?).bind (·.dst) = some 58 := by kernel_rfl
 have gd22 : (J0M[22]?).bind (·.dst) = some 61 := by kernel_rfl
 have gd29 : (J0M[29]?).bind (·.dst) = some 68 := by kernel_rfl
 have gd33 : (J0M[33]?).bind (·.dst) = some 72 := by kernel_rfl
 have gd36 : (J0M[36]?).bind (·.dst) = some 75 := by kernel_rfl
 have gd41 : (J0M[41]?).bind (·.dst) = some 80 := by kernel_rfl
 have h91' := fun f => h91 (h.fl f) rfl
 have FF := And.intro @gd6 (And.intro @gd9 (And.intro @gd15 (And.intro @gd19 (And.intro @gd22 (And.intro @gd29 (And.intro @gd33 (And.intro @gd36 (And.intro @gd41 (And.intro @t8 (And.intro @ga (And.intro @gb (And.intro @hb @h91'))))))))))))
 refine wst hsn 0 (some 39) (.fieldAddr 46 (.tmp 8) 1) none ?_
 simp only [rgC, seval, J04, J02, WKFC, J07, t9, FF]
 refine wst hsn 1 (some 40) (.load 9 (.tmp 39)) none ?_
 simp only [rgC, seval, J04, J02, WKFC, J0m, J0d, J1V, J0u, J1d, J2a, J2O, J2b, J2N, Nat.zero_add, J0f, decide_true, false_implies, forall_const, t9, FF]
 refine wst hsn 2 (some 41) (.call { callee := .value (.func 91), args := #[.tmp 40], argTypes := #[9] }) none ?_
 simp only [rgC, seval, J04, J02, WKFC, rgK, t9, FF]
 refine wst hsn 3 (some 42) (.fieldAddr 123 (.tmp 9) 0) none ?_
 simp only [rgC, seval, J04, J02, WKFC, J5B, t9, FF]
 refine wst hsn 4 (some 43) (.load 4 (.tmp 42)) none ?_
 simp only [rgC, seval, J04, J02, WKFC, J0m, J0d, J1V, J0u, J1d, J2a, J2O, J2b, J2N, Nat.zero_add, J0f, decide_true, false_implies, forall_const, t9, FF]
 refine wst hsn 5 (some 44) (.binOp .eql 4 (.tmp 41) (.tmp 43) 4) none ?_
 simp only [rgC, seval, J04, J02, WKFC, J24, J1y, J1C, J23, J21, J22, t9, FF]
 clear FF
 cases q1 : (J09 x.name == nm)
 ·skip
  have FF := And.intro @gd6 (And.intro @gd9 (And.intro @gd15 (And.intro @gd19 (And.intro @gd22 (And.intro @gd29 (And.intro @gd33 (And.intro @gd36 (And.intro @gd41 (And.intro @t8 (And.intro @ga (And.intro @gb (And.intro @hb (And.intro @h91' @q1)))))))))))))
  refine wst hsn 6 (some 45) (.move (.tmp 44)) none ?_
  simp only [rgC, seval, J04, J02, WKFC, t9, FF]
  refine wst hsn 7 (some 46) (.fieldAddr 123 (.tmp 9) 0) (some (6, true)) ?_
  simp only [rgC, seval, J04, J02, WKFC, J5B, t9, FF]
  refine wst hsn 8 (some 47) (.load 4 (.tmp 46)) (some (6, true)) ?_
  simp only [rgC, seval, J04, J02, WKFC, J0m, J0d, J1V, J0u, J1d, J2a, J2O, J2b, J2N, Nat.zero_add, J0f, decide_true, false_implies, forall_const, t9, FF]
  refine wst hsn 9 (some 48) (.move (.tmp 47)) (some (6, true)) ?_
  simp only [rgC, seval, J04, J02, WKFC, t9, FF]
  refine wst hsn 10 (some 49) (.fieldAddr 46 (.tmp 8) 1) (some (9, false)) ?_
  simp only [rgC, seval, J04, J02, WKFC, J07, t9, FF]
  refine wst hsn 11 (some 50) (.load 9 (.tmp 49)) (some (9, false)) ?_
  simp only [rgC, seval, J04, J02, WKFC, J0m, J0d, J1V, J0u, J1d, J2a, J2O, J2b, J2N, Nat.zero_add, J0f, decide_true, false_implies, forall_const, t9, FF]
  refine wst hsn 12 (some 51) (.binOp .eql 9 (.tmp 50) (.const (Value.string { data := #[] })) 9) (some (9, false)) ?_
  simp only [rgC, seval, J04, J02, WKFC, J24, J1y, J1C, J23, J21, J22, t9, FF]
  refine wst hsn 13 (some 52) (.pick (.tmp 48) (.const (Value.bool true)) (.tmp 51)) (some (6, true)) ?_
  simp only [rgC, seval, J04, J02, WKFC, t9, FF]
  refine wst hsn 14 (some 53) (.pick (.tmp 45) (.tmp 52) (.const (Value.bool false))) none ?_
  simp only [rgC, seval, J04, J02, WKFC, t9, FF]
  refine wst hsn 15 (some 54) (.move (.tmp 53)) none ?_
  simp only [rgC, seval, J04, J02, WKFC, t9, FF]
  clear FF
  refine hk _ ?_ ?_
  ·simp only [Tr.get_put, if_true]; first | rfl | simp [*]
  ·intro t ht
   rw [J03 (d := 54) (b := 39) (by decide) ht, J03 (d := 53) (b := 39) (by decide) ht, J03 (d := 52) (b := 39) (by decide) ht, J03 (d := 51) (b := 39) (by decide) ht, J03 (d := 50) (b := 39) (by decide) ht, J03 (d := 49) (b := 39) (by decide) ht, J03 (d := 48) (b := 39) (by decide) ht, J03 (d := 47) (b := 39) (by decide) ht, J03 (d := 46) (b := 39) (by decide) ht, J03 (d := 45) (b := 39) (by decide) ht, J03 (d := 44) (b := 39) (by decide) ht, J03 (d := 43) (b := 39) (by decide) ht, J03 (d := 42) (b := 39) (by decide) ht, J03 (d := 41) (b := 39) (by decide) ht, J03 (d := 40) (b := 39) (by decide) ht, J03 (d := 39) (b := 39) (by decide) ht]
 ·skip
  have FF := And.intro @gd6 (And.intro @gd9 (And.intro @gd15 (And.intro @gd19 (And.intro @gd22 (And.intro @gd29 (And.intro @gd33 (And.intro @gd36 (And.intro @gd41 (And.intro @t8 (And.intro @ga (And.intro @gb (And.intro @hb (And.intro @h91' @q1)))))))))))))
  refine wst hsn 6 (some 45) (.move (.tmp 44)) none ?_
  simp only [rgC, seval, J04, J02, WKFC, t9, FF]
  refine wst hsn 7 (some 46) (.fieldAddr 123 (.tmp 9) 0) (some (6, true)) ?_
  simp only [rgC, seval, J04, J02, WKFC, J5B, t9, FF]
  refine wst hsn 8 (some 47) (.load 4 (.tmp 46)) (some (6, true)) ?_
  simp only [rgC, seval, J04, J02, WKFC, J0m, J0d, J1V, J0u, J1d, J2a, J2O, J2b, J2N, Nat.zero_add, J0f, decide_true, false_implies, forall_const, t9, FF]
  refine wst hsn 9 (some 48) (.move (.tmp 47)) (some (6, true)) ?_
  simp only [rgC, seval, J04, J02, WKFC, t9, FF]
  clear FF
  cases nm
  ·skip
   have FF := And.intro @gd6 (And.intro @gd9 (And.intro @gd15 (And.intro @gd19 (And.intro @gd22 (And.intro @gd29 (And.intro @gd33 (And.intro @gd36 (And.intro @gd41 (And.intro @t8 (And.intro @ga (And.intro @gb (And.intro @hb (And.intro @h91' @q1)))))))))))))
   refine wst hsn 10 (some 49) (.fieldAddr 46 (.tmp 8) 1) (some (9, false)) ?_
   simp only [rgC, seval, J04, J02, WKFC, J07, t9, FF]
   refine wst hsn 11 (some 50) (.load 9 (.tmp 49)) (some (9, false)) ?_
   simp only [rgC, seval, J04, J02, WKFC, J0m, J0d, J1V, J0u, J1d, J2a, J2O, J2b, J2N, Nat.zero_add, J0f, decide_true, false_implies, forall_const, t9, FF]
   refine wst hsn 12 (some 51) (.binOp .eql 9 (.tmp 50) (.const (Value.string { data := #[] })) 9) (some (9, false)) ?_
   simp only [rgC, seval, J04, J02, WKFC, J24, J1y, J1C, J23, J21, J22, t9, FF]
   clear FF
   cases q3 : (x.name == ⟨#[]⟩)
   ·skip
    have FF := And.intro @gd6 (And.intro @gd9 (And.intro @gd15 (And.intro @gd19 (And.intro @gd22 (And.intro @gd29 (And.intro @gd33 (And.intro @gd36 (And.intro @gd41 (And.intro @t8 (And.intro @ga (And.intro @gb (And.intro @hb (And.intro @h91' (And.intro @q1 @q3))))))))))))))
    refine wst hsn 13 (some 52) (.pick (.tmp 48) (.const (Value.bool true)) (.tmp 51)) (some (6, true)) ?_
    simp only [rgC, seval, J04, J02, WKFC, t9, FF]
    refine wst hsn 14 (some 53) (.pick (.tmp 45) (.tmp 52) (.const (Value.bool false))) none ?_
    simp only [rgC, seval, J04, J02, WKFC, t9, FF]
    refine wst hsn 15 (some 54) (.move (.tmp 53)) none ?_
    simp only [rgC, seval, J04, J02, WKFC, t9, FF]
    clear FF
    refine hk _ ?_ ?_
    ·simp only [Tr.get_put, if_true]; first | rfl | simp [*]
    ·intro t ht
     rw [J03 (d := 54) (b := 39) (by decide) ht, J03 (d := 53) (b := 39) (by decide) ht, J03 (d := 52) (b := 39) (by decide) ht, J03 (d := 51) (b := 39) (by decide) ht, J03 (d := 50) (b := 39) (by decide) ht, J03 (d := 49) (b := 39) (by decide) ht, J03 (d := 48) (b := 39) (by decide) ht, J03 (d := 47) (b := 39) (by decide) ht, J03 (d := 46) (b := 39) (by decide) ht, J03 (d := 45) (b := 39) (by decide) ht, J03 (d := 44) (b := 39) (by decide) ht, J03 (d := 43) (b := 39) (by decide) ht, J03 (d := 42) (b := 39) (by decide) ht, J03 (d := 41) (b := 39) (by decide) ht, J03 (d := 40) (b := 39) (by decide) ht, J03 (d := 39) (b := 39) (by decide) ht]
   ·skip
    have FF := And.intro @gd6 (And.intro @gd9 (And.intro @gd15 (And.intro @gd19 (And.intro @gd22 (And.intro @gd29 (And.intro @gd33 (And.intro @gd36 (And.intro @gd41 (And.intro @t8 (And.intro @ga (And.intro @gb (And.intro @hb (And.intro @h91' (And.intro @q1 @q3))))))))))))))
    refine wst hsn 13 (some 52) (.pick (.tmp 48) (.const (Value.bool true)) (.tmp 51)) (some (6, true)) ?_
    simp only [rgC, seval, J04, J02, WKFC, t9, FF]
    refine wst hsn 14 (some 53) (.pick (.tmp 45) (.tmp 52) (.const (Value.bool false))) none ?_
    simp only [rgC, seval, J04, J02, WKFC, t9, FF]
    refine wst hsn 15 (some 54) (.move (.tmp 53)) none ?_
    simp only [rgC, seval, J04, J02, WKFC, t9, FF]
    clear FF
    refine hk _ ?_ ?_
    ·simp only [Tr.get_put, if_true]; first | rfl | simp [*]
    ·intro t ht
     rw [J03 (d := 54) (b := 39) (by decide) ht, J03 (d := 53) (b := 39) (by decide) ht, J03 (d := 52) (b := 39) (by decide) ht, J03 (d := 51) (b := 39) (by decide) ht, J03 (d := 50) (b := 39) (by decide) ht, J03 (d := 49) (b := 39) (by decide) ht, J03 (d := 48) (b := 39) (by decide) ht, J03 (d := 47) (b := 39) (by decide) ht, J03 (d := 46) (b := 39) (by decide) ht, J03 (d := 45) (b := 39) (by decide) ht, J03 (d := 44) (b := 39) (by decide) ht, J03 (d := 43) (b := 39) (by decide) ht, J03 (d := 42) (b := 39) (by decide) ht, J03 (d := 41) (b := 39) (by decide) ht, J03 (d := 40) (b := 39) (by decide) ht, J03 (d := 39) (b := 39) (by decide) ht]
  ·skip
   have FF := And.intro @gd6 (And.intro @gd9 (And.intro @gd15 (And.intro @gd19 (And.intro @gd22 (And.intro @gd29 (And.intro @gd33 (And.intro @gd36 (And.intro @gd41 (And.intro @t8 (And.intro @ga (And.intro @gb (And.intro @hb (And.intro @h91' @q1)))))))))))))
   refine wst hsn 10 (some 49) (.fieldAddr 46 (.tmp 8) 1) (some (9, false)) ?_
   simp only [rgC, seval, J04, J02, WKFC, J07, t9, FF]
   refine wst hsn 11 (some 50) (.load 9 (.tmp 49)) (some (9, false)) ?_
   simp only [rgC, seval, J04, J02, WKFC, J0m, J0d, J1V, J0u, J1d, J2a, J2O, J2b, J2N, Nat.zero_add, J0f, decide_true, false_implies, forall_const, t9, FF]
   refine wst hsn 12 (some 51) (.binOp .eql 9 (.tmp 50) (.const (Value.string { data := #[] })) 9) (some (9, false)) ?_
   simp only [rgC, seval, J04, J02, WKFC, J24, J1y, J1C, J23, J21, J22, t9, FF]
   refine wst hsn 13 (some 52) (.pick (.tmp 48) (.const (Value.bool true)) (.tmp 51)) (some (6, true)) ?_
   simp only [rgC, seval, J04, J02, WKFC, t9, FF]
   refine wst hsn 14 (some 53) (.pick (.tmp 45) (.tmp 52) (.const (Value.bool false))) none ?_
   simp only [rgC, seval, J04, J02, WKFC, t9, FF]
   refine wst hsn 15 (some 54) (.move (.tmp 53)) none ?_
   simp only [rgC, seval, J04, J02, WKFC, t9, FF]
   clear FF
   refine hk _ ?_ ?_
   ·simp only [Tr.get_put, if_true]; first | rfl | simp [*]
   ·intro t ht
    rw [J03 (d := 54) (b := 39) (by decide) ht, J03 (d := 53) (b := 39) (by decide) ht, J03 (d := 52) (b := 39) (by decide) ht, J03 (d := 51) (b := 39) (by decide) ht, J03 (d := 50) (b := 39) (by decide) ht, J03 (d := 49) (b := 39) (by decide) ht, J03 (d := 48) (b := 39) (by decide) ht, J03 (d := 47) (b := 39) (by decide) ht, J03 (d := 46) (b := 39) (by decide) ht, J03 (d := 45) (b := 39) (by decide) ht, J03 (d := 44) (b := 39) (by decide) ht, J03 (d := 43) (b := 39) (by decide) ht, J03 (d := 42) (b := 39) (by decide) ht, J03 (d := 41) (b := 39) (by decide) ht, J03 (d := 40) (b := 39) (by decide) ht, J03 (d := 39) (b := 39) (by decide) ht]
set_option maxHeartbeats 16000000 in
theorem ph2 {c : Bool} (t54 : T.get 54 = .bool c)
  (hk : ∀ T', T'.get 68 = .bool (c && (x.ends == 0 || en && x.ends == 1)) → (∀ t : Nat, t < 55 → T'.get t = T.get t) → WKF Tryd.prog call n J0M start (J6P.drop 30) (J0M.toList.drop 30) ⟨T', h⟩ k) : WKF Tryd.prog call n J0M start (J6P.drop 16) (J0M.toList.drop 16) ⟨T, h⟩ k := by
 have gd6 : (J0M[6]?).bind (·.dst) = some 45 := by kernel_rfl
 have gd9 : (J0M[9]?).bind (·.dst) = some 48 := by kernel_rfl
 have gd15 : (J0M[15]?).bind (·.dst) = some 54 := by kernel_rfl
 have gd19 : (J0M[19]?).bind (·.dst) = some 58 := by kernel_rfl
 have gd22 : (J0M[22]?).bind (·.dst) = some 61 := by kernel_rfl
 have gd29 : (J0M[29]?).bind (·.dst) = some 68 := by kernel_rfl
 have gd33 : (J0M[33]?).bind (·.dst) = some 72 := by kernel_rfl
 have gd36 : (J0M[36]?).bind (·.dst) = some 75 := by kernel_rfl
 have gd41 : (J0M[41]?).bind (·.dst) = some 80 := by kernel_rfl
 cases c
 ·skip
  have FF := And.intro @gd6 (And.intro @gd9 (And.intro @gd15 (And.intro @gd19 (And.intro @gd22 (And.intro @gd29 (And.intro @gd33 (And.intro @gd36 (And.intro @gd41 (And.intro @t8 (And.intro @ga (And.intro @gb (And.intro @hb @t54))))))))))))
  refine wst hsn 16 (some 55) (.fieldAddr 46 (.tmp 8) 2) (some (15, true)) ?_
  simp only [rgC, seval, J04, J02, WKFC, J46, t9, FF]
  refine wst hsn 17 (some 56) (.load 3 (.tmp 55)) (some (15, true)) ?_
  simp only [rgC, seval, J04, J02, WKFC, J0m, J0d, J1V, J0u, J1d, J2a, J2O, J2b, J2N, Nat.zero_add, J0f, decide_true, false_implies, forall_const, t9, FF]
  refine wst hsn 18 (some 57) (.binOp .eql 3 (.tmp 56) (.const (Value.int IntKind.i64 0)) 3) (some (15, true)) ?_
  simp only [rgC, seval, J04, J02, WKFC, J24, J1y, J1C, J23, J21, J22, t9, FF]
  refine wst hsn 19 (some 58) (.move (.tmp 57)) (some (15, true)) ?_
  simp only [rgC, seval, J04, J02, WKFC, t9, FF]
  refine wst hsn 20 (some 59) (.fieldAddr 123 (.tmp 9) 1) (some (19, false)) ?_
  simp only [rgC, seval, J04, J02, WKFC, J5I, t9, FF]
  refine wst hsn 21 (some 60) (.load 4 (.tmp 59)) (some (19, false)) ?_
  simp only [rgC, seval, J04, J02, WKFC, J0m, J0d, J1V, J0u, J1d, J2a, J2O, J2b, J2N, Nat.zero_add, J0f, decide_true, false_implies, forall_const, t9, FF]
  refine wst hsn 22 (some 61) (.move (.tmp 60)) (some (19, false)) ?_
  simp only [rgC, seval, J04, J02, WKFC, t9, FF]
  refine wst hsn 23 (some 62) (.fieldAddr 46 (.tmp 8) 2) (some (22, true)) ?_
  simp only [rgC, seval, J04, J02, WKFC, J46, t9, FF]
  refine wst hsn 24 (some 63) (.load 3 (.tmp 62)) (some (22, true)) ?_
  simp only [rgC, seval, J04, J02, WKFC, J0m, J0d, J1V, J0u, J1d, J2a, J2O, J2b, J2N, Nat.zero_add, J0f, decide_true, false_implies, forall_const, t9, FF]
  refine wst hsn 25 (some 64) (.binOp .eql 3 (.tmp 63) (.const (Value.int IntKind.i64 1)) 3) (some (22, true)) ?_
  simp only [rgC, seval, J04, J02, WKFC, J24, J1y, J1C, J23, J21, J22, t9, FF]
  refine wst hsn 26 (some 65) (.pick (.tmp 61) (.tmp 64) (.const (Value.bool false))) (some (19, false)) ?_
  simp only [rgC, seval, J04, J02, WKFC, t9, FF]
  refine wst hsn 27 (some 66) (.pick (.tmp 58) (.const (Value.bool true)) (.tmp 65)) (some (15, true)) ?_
  simp only [rgC, seval, J04, J02, WKFC, t9, FF]
  refine wst hsn 28 (some 67) (.pick (.tmp 54) (.tmp 66) (.const (Value.bool false))) none ?_
  simp only [rgC, seval, J04, J02, WKFC, t9, FF]
  refine wst hsn 29 (some 68) (.move (.tmp 67)) none ?_
  simp only [rgC, seval, J04, J02, WKFC, t9, FF]
  clear FF
  refine hk _ ?_ ?_
  ·simp only [Tr.get_put, if_true]; first | rfl | simp [*]
  ·intro t ht
   rw [J03 (d := 68) (b := 55) (by decide) ht, J03 (d := 67) (b := 55) (by decide) ht, J03 (d := 66) (b := 55) (by decide) ht, J03 (d := 65) (b := 55) (by decide) ht, J03 (d := 64) (b := 55) (by decide) ht, J03 (d := 63) (b := 55) (by decide) ht, J03 (d := 62) (b := 55) (by decide) ht, J03 (d := 61) (b := 55) (by decide) ht, J03 (d := 60) (b := 55) (by decide) ht, J03 (d := 59) (b := 55) (by decide) ht, J03 (d := 58) (b := 55) (by decide) ht, J03 (d := 57) (b := 55) (by decide) ht, J03 (d := 56) (b := 55) (by decide) ht, J03 (d := 55) (b := 55) (by decide) ht]
 ·skip
  have FF := And.intro @gd6 (And.intro @gd9 (And.intro @gd15 (And.intro @gd19 (And.intro @gd22 (And.intro @gd29 (And.intro @gd33 (And.intro @gd36 (And.intro @gd41 (And.intro @t8 (And.intro @ga (And.intro @gb (And.intro @hb @t54))))))))))))
  refine wst hsn 16 (some 55) (.fieldAddr 46 (.tmp 8) 2) (some (15, true)) ?_
  simp only [rgC, seval, J04, J02, WKFC, J46, t9, FF]
  refine wst hsn 17 (some 56) (.load 3 (.tmp 55)) (some (15, true)) ?_
  simp only [rgC, seval, J04, J02, WKFC, J0m, J0d, J1V, J0u, J1d, J2a, J2O, J2b, J2N, Nat.zero_add, J0f, decide_true, false_implies, forall_const, t9, FF]
  refine wst hsn 18 (some 57) (.binOp .eql 3 (.tmp 56) (.const (Value.int IntKind.i64 0)) 3) (some (15, true)) ?_
  simp only [rgC, seval, J04, J02, WKFC, J24, J1y, J1C, J23, J21, J22, t9, FF]
  clear FF
  cases q1 : (x.ends == 0)
  ·skip
   have FF := And.intro @gd6 (And.intro @gd9 (And.intro @gd15 (And.intro @gd19 (And.intro @gd22 (And.intro @gd29 (And.intro @gd33 (And.intro @gd36 (And.intro @gd41 (And.intro @t8 (And.intro @ga (And.intro @gb (And.intro @hb (And.intro @t54 @q1)))))))))))))
   refine wst hsn 19 (some 58) (.move (.tmp 57)) (some (15, true)) ?_
   simp only [rgC, seval, J04, J02, WKFC, t9, FF]
   refine wst hsn 20 (some 59) (.fieldAddr 123 (.tmp 9) 1) (some (19, false)) ?_
   simp only [rgC, seval, J04, J02, WKFC, J5I, t9, FF]
   refine wst hsn 21 (some 60) (.load 4 (.tmp 59)) (some (19, false)) ?_
   simp only [rgC, seval, J04, J02, WKFC, J0m, J0d, J1V, J0u, J1d, J2a, J2O, J2b, J2N, Nat.zero_add, J0f, decide_true, false_implies, forall_const, t9, FF]
   refine wst hsn 22 (some 61) (.move (.tmp 60)) (some (19, false)) ?_
   simp only [rgC, seval, J04, J02, WKFC, t9, FF]
   clear FF
   cases en
   ·skip
    have FF := And.intro @gd6 (And.intro @gd9 (And.intro @gd15 (And.intro @gd19 (And.intro @gd22 (And.intro @gd29 (And.intro @gd33 (And.intro @gd36 (And.intro @gd41 (And.intro @t8 (And.intro @ga (And.intro @gb (And.intro @hb (And.intro @t54 @q1)))))))))))))
    refine wst hsn 23 (some 62) (.fieldAddr 46 (.tmp 8) 2) (some (22, true)) ?_
    simp only [rgC, seval, J04, J02, WKFC, J46, t9, FF]
    refine wst hsn 24 (some 63) (.load 3 (.tmp 62)) (some (22, true)) ?_
    simp only [rgC, seval, J04, J02, WKFC, J0m, J0d, J1V, J0u, J1d, J2a, J2O, J2b, J2N, Nat.zero_add, J0f, decide_true, false_implies, forall_const, t9, FF]
    refine wst hsn 25 (some 64) (.binOp .eql 3 (.tmp 63) (.const (Value.int IntKind.i64 1)) 3) (some (22, true)) ?_
    simp only [rgC, seval, J04, J02, WKFC, J24, J1y, J1C, J23, J21, J22, t9, FF]
    refine wst hsn 26 (some 65) (.pick (.tmp 61) (.tmp 64) (.const (Value.bool false))) (some (19, false)) ?_
    simp only [rgC, seval, J04, J02, WKFC, t9, FF]
    refine wst hsn 27 (some 66) (.pick (.tmp 58) (.const (Value.bool true)) (.tmp 65)) (some (15, true)) ?_
    simp only [rgC, seval, J04, J02, WKFC, t9, FF]
    refine wst hsn 28 (some 67) (.pick (.tmp 54) (.tmp 66) (.const (Value.bool false))) none ?_
    simp only [rgC, seval, J04, J02, WKFC, t9, FF]
    refine wst hsn 29 (some 68) (.move (.tmp 67)) none ?_
    simp only [rgC, seval, J04, J02, WKFC, t9, FF]
    clear FF
    refine hk _ ?_ ?_
    ·simp only [Tr.get_put, if_true]; first | rfl | simp [*]
    ·intro t ht
     rw [J03 (d := 68) (b := 55) (by decide) ht, J03 (d := 67) (b := 55) (by decide) ht, J03 (d := 66) (b := 55) (by decide) ht, J03 (d := 65) (b := 55) (by decide) ht, J03 (d := 64) (b := 55) (by decide) ht, J03 (d := 63) (b := 55) (by decide) ht, J03 (d := 62) (b := 55) (by decide) ht, J03 (d := 61) (b := 55) (by decide) ht, J03 (d := 60) (b := 55) (by decide) ht, J03 (d := 59) (b := 55) (by decide) ht, J03 (d := 58) (b := 55) (by decide) ht, J03 (d := 57) (b := 55) (by decide) ht, J03 (d := 56) (b := 55) (by decide) ht, J03 (d := 55) (b := 55) (by decide) ht]
   ·skip
    have FF := And.intro @gd6 (And.intro @gd9 (And.intro @gd15 (And.intro @gd19 (And.intro @gd22 (And.intro @gd29 (And.intro @gd33 (And.intro @gd36 (And.intro @gd41 (And.intro @t8 (And.intro @ga (And.intro @gb (And.intro @hb (And.intro @t54 @q1)))))))))))))
    refine wst hsn 23 (some 62) (.fieldAddr 46 (.tmp 8) 2) (some (22, true)) ?_
    simp only [rgC, seval, J04, J02, WKFC, J46, t9, FF]
    refine wst hsn 24 (some 63) (.load 3 (.tmp 62)) (some (22, true)) ?_
    simp only [rgC, seval, J04, J02, WKFC, J0m, J0d, J1V, J0u, J1d, J2a, J2O, J2b, J2N, Nat.zero_add, J0f, decide_true, false_implies, forall_const, t9, FF]
    refine wst hsn 25 (some 64) (.binOp .eql 3 (.tmp 63) (.const (Value.int IntKind.i64 1)) 3) (some (22, true)) ?_
    simp only [rgC, seval, J04, J02, WKFC, J24, J1y, J1C, J23, J21, J22, t9, FF]
    clear FF
    cases q3 : (x.ends == 1)
    ·skip
     have FF := And.intro @gd6 (And.intro @gd9 (And.intro @gd15 (And.intro @gd19 (And.intro @gd22 (And.intro @gd29 (And.intro @gd33 (And.intro @gd36 (And.intro @gd41 (And.intro @t8 (And.intro @ga (And.intro @gb (And.intro @hb (And.intro @t54 (And.intro @q1 @q3))))))))))))))
     refine wst hsn 26 (some 65) (.pick (.tmp 61) (.tmp 64) (.const (Value.bool false))) (some (19, false)) ?_
     simp only [rgC, seval, J04, J02, WKFC, t9, FF]
     refine wst hsn 27 (some 66) (.pick (.tmp 58) (.const (Value.bool true)) (.tmp 65)) (some (15, true)) ?_
     simp only [rgC, seval, J04, J02, WKFC, t9, FF]
     refine wst hsn 28 (some 67) (.pick (.tmp 54) (.tmp 66) (.const (Value.bool false))) none ?_
     simp only [rgC, seval, J04, J02, WKFC, t9, FF]
     refine wst hsn 29 (some 68) (.move (.tmp 67)) none ?_
     simp only [rgC, seval, J04, J02, WKFC, t9, FF]
     clear FF
     refine hk _ ?_ ?_
     ·simp only [Tr.get_put, if_true]; first | rfl | simp [*]
     ·intro t ht
      rw [J03 (d := 68) (b := 55) (by decide) ht, J03 (d := 67) (b := 55) (by decide) ht, J03 (d := 66) (b := 55) (by decide) ht, J03 (d := 65) (b := 55) (by decide) ht, J03 (d := 64) (b := 55) (by decide) ht, J03 (d := 63) (b := 55) (by decide) ht, J03 (d := 62) (b := 55) (by decide) ht, J03 (d := 61) (b := 55) (by decide) ht, J03 (d := 60) (b := 55) (by decide) ht, J03 (d := 59) (b := 55) (by decide) ht, J03 (d := 58) (b := 55) (by decide) ht, J03 (d := 57) (b := 55) (by decide) ht, J03 (d := 56) (b := 55) (by decide) ht, J03 (d := 55) (b := 55) (by decide) ht]
    ·skip
     have FF := And.intro @gd6 (And.intro @gd9 (And.intro @gd15 (And.intro @gd19 (And.intro @gd22 (And.intro @gd29 (And.intro @gd33 (And.intro @gd36 (And.intro @gd41 (And.intro @t8 (And.intro @ga (And.intro @gb (And.intro @hb (And.intro @t54 (And.intro @q1 @q3))))))))))))))
     refine wst hsn 26 (some 65) (.pick (.tmp 61) (.tmp 64) (.const (Value.bool false))) (some (19, false)) ?_
     simp only [rgC, seval, J04, J02, WKFC, t9, FF]
     refine wst hsn 27 (some 66) (.pick (.tmp 58) (.const (Value.bool true)) (.tmp 65)) (some (15, true)) ?_
     simp only [rgC, seval, J04, J02, WKFC, t9, FF]
     refine wst hsn 28 (some 67) (.pick (.tmp 54) (.tmp 66) (.const (Value.bool false))) none ?_
     simp only [rgC, seval, J04, J02, WKFC, t9, FF]
     refine wst hsn 29 (some 68) (.move (.tmp 67)) none ?_
     simp only [rgC, seval, J04, J02, WKFC, t9, FF]
     clear FF
     refine hk _ ?_ ?_
     ·simp only [Tr.get_put, if_true]; first | rfl | simp [*]
     ·intro t ht
      rw [J03 (d := 68) (b := 55) (by decide) ht, J03 (d := 67) (b := 55) (by decide) ht, J03 (d := 66) (b := 55) (by decide) ht, J03 (d := 65) (b := 55) (by decide) ht, J03 (d := 64) (b := 55) (by decide) ht, J03 (d := 63) (b := 55) (by decide) ht, J03 (d := 62) (b := 55) (by decide) ht, J03 (d := 61) (b := 55) (by decide) ht, J03 (d := 60) (b := 55) (by decide) ht, J03 (d := 59) (b := 55) (by decide) ht, J03 (d := 58) (b := 55) (by decide) ht, J03 (d := 57) (b := 55) (by decide) ht, J03 (d := 56) (b := 55) (by decide) ht, J03 (d := 55) (b := 55) (by decide) ht]
  ·skip
   have FF := And.intro @gd6 (And.intro @gd9 (And.intro @gd15 (And.intro @gd19 (And.intro @gd22 (And.intro @gd29 (And.intro @gd33 (And.intro @gd36 (And.intro @gd41 (And.intro @t8 (And.intro @ga (And.intro @gb (And.intro @hb (And.intro @t54 @q1)))))))))))))
   refine wst hsn 19 (some 58) (.move (.tmp 57)) (some (15, true)) ?_
   simp only [rgC, seval, J04, J02, WKFC, t9, FF]
   refine wst hsn 20 (some 59) (.fieldAddr 123 (.tmp 9) 1) (some (19, false)) ?_
   simp only [rgC, seval, J04, J02, WKFC, J5I, t9, FF]
   refine wst hsn 21 (some 60) (.load 4 (.tmp 59)) (some (19, false)) ?_
   simp only [rgC, seval, J04, J02, WKFC, J0m, J0d, J1V, J0u, J1d, J2a, J2O, J2b, J2N, Nat.zero_add, J0f, decide_true, false_implies, forall_const, t9, FF]
   refine wst hsn 22 (some 61) (.move (.tmp 60)) (some (19, false)) ?_
   simp only [rgC, seval, J04, J02, WKFC, t9, FF]
   refine wst hsn 23 (some 62) (.fieldAddr 46 (.tmp 8) 2) (some (22, true)) ?_
   simp only [rgC, seval, J04, J02, WKFC, J46, t9, FF]
   refine wst hsn 24 (some 63) (.load 3 (.tmp 62)) (some (22, true)) ?_
   simp only [rgC, seval, J04, J02, WKFC, J0m, J0d, J1V, J0u, J1d, J2a, J2O, J2b, J2N, Nat.zero_add, J0f, decide_true, false_implies, forall_const, t9, FF]
   refine wst hsn 25 (some 64) (.binOp .eql 3 (.tmp 63) (.const (Value.int IntKind.i64 1)) 3) (some (22, true)) ?_
   simp only [rgC, seval, J04, J02, WKFC, J24, J1y, J1C, J23, J21, J22, t9, FF]
   refine wst hsn 26 (some 65) (.pick (.tmp 61) (.tmp 64) (.const (Value.bool false))) (some (19, false)) ?_
   simp only [rgC, seval, J04, J02, WKFC, t9, FF]
   refine wst hsn 27 (some 66) (.pick (.tmp 58) (.const (Value.bool true)) (.tmp 65)) (some (15, true)) ?_
   simp only [rgC, seval, J04, J02, WKFC, t9, FF]
   refine wst hsn 28 (some 67) (.pick (.tmp 54) (.tmp 66) (.const (Value.bool false))) none ?_
   simp only [rgC, seval, J04, J02, WKFC, t9, FF]
   refine wst hsn 29 (some 68) (.move (.tmp 67)) none ?_
   simp only [rgC, seval, J04, J02, WKFC, t9, FF]
   clear FF
   refine hk _ ?_ ?_
   ·simp only [Tr.get_put, if_true]; first | rfl | simp [*]
   ·intro t ht
    rw [J03 (d := 68) (b := 55) (by decide) ht, J03 (d := 67) (b := 55) (by decide) ht, J03 (d := 66) (b := 55) (by decide) ht, J03 (d := 65) (b := 55) (by decide) ht, J03 (d := 64) (b := 55) (by decide) ht, J03 (d := 63) (b := 55) (by decide) ht, J03 (d := 62) (b := 55) (by decide) ht, J03 (d := 61) (b := 55) (by decide) ht, J03 (d := 60) (b := 55) (by decide) ht, J03 (d := 59) (b := 55) (by decide) ht, J03 (d := 58) (b := 55) (by decide) ht, J03 (d := 57) (b := 55) (by decide) ht, J03 (d := 56) (b := 55) (by decide) ht, J03 (d := 55) (b := 55) (by decide) ht]
set_option maxHeartbeats 16000000 in
theorem ph3 {c : Bool} (t68 : T.get 68 = .bool c)
  (hk : ∀ T', T'.get 10 = .bool (c && (x.n == 0 || nu && decide (x.n > 0) && decide (x.n ≤ 1073741824))) → (∀ t : Nat, t < 10 → T'.get t = T.get t) → WKF Tryd.prog call n J0M start (J6P.drop 49) (J0M.toList.drop 49) ⟨T', h⟩ k) : WKF Tryd.prog call n J0M start (J6P.drop 30) (J0M.toList.drop 30) ⟨T, h⟩ k := by
 have gd6 : (J0M[6]?).bind (·.dst) = some 45 := by kernel_rfl
 have gd9 : (J0M[9]?).bind (·.dst) = some 48 := by kernel_rfl
 have gd15 : (J0M[15]?).bind (·.dst) = some 54 := by kernel_rfl
 have gd19 : (J0M[19]?).bind (·.dst) = some 58 := by kernel_rfl
 have gd22 : (J0M[22]?).bind (·.dst) = some 61 := by kernel_rfl
 have gd29 : (J0M[29]?).bind (·.dst) = some 68 := by kernel_rfl
 have gd33 : (J0M[33]?).bind (·.dst) = some 72 := by kernel_rfl
 have gd36 : (J0M[36]?).bind (·.dst) = some 75 := by kernel_rfl
 have gd41 : (J0M[41]?).bind (·.dst) = some 80 := by kernel_rfl
 cases c
 ·skip
  have FF := And.intro @gd6 (And.intro @gd9 (And.intro @gd15 (And.intro @gd19 (And.intro @gd22 (And.intro @gd29 (And.intro @gd33 (And.intro @gd36 (And.intro @gd41 (And.intro @t8 (And.intro @ga (And.intro @gb (And.intro @hb @t68))))))))))))
  refine wst hsn 30 (some 69) (.fieldAddr 46 (.tmp 8) 3) (some (29, true)) ?_
  simp only [rgC, seval, J04, J02, WKFC, J0O, t9, FF]
  refine wst hsn 31 (some 70) (.load 3 (.tmp 69)) (some (29, true)) ?_
  simp only [rgC, seval, J04, J02, WKFC, J0m, J0d, J1V, J0u, J1d, J2a, J2O, J2b, J2N, Nat.zero_add, J0f, decide_true, false_implies, forall_const, t9, FF]
  refine wst hsn 32 (some 71) (.binOp .eql 3 (.tmp 70) (.const (Value.int IntKind.i64 0)) 3) (some (29, true)) ?_
  simp only [rgC, seval, J04, J02, WKFC, J24, J1y, J1C, J23, J21, J22, t9, FF]
  refine wst hsn 33 (some 72) (.move (.tmp 71)) (some (29, true)) ?_
  simp only [rgC, seval, J04, J02, WKFC, t9, FF]
  refine wst hsn 34 (some 73) (.fieldAddr 123 (.tmp 9) 2) (some (33, false)) ?_
  simp only [rgC, seval, J04, J02, WKFC, J5G, t9, FF]
  refine wst hsn 35 (some 74) (.load 4 (.tmp 73)) (some (33, false)) ?_
  simp only [rgC, seval, J04, J02, WKFC, J0m, J0d, J1V, J0u, J1d, J2a, J2O, J2b, J2N, Nat.zero_add, J0f, decide_true, false_implies, forall_const, t9, FF]
  refine wst hsn 36 (some 75) (.move (.tmp 74)) (some (33, false)) ?_
  simp only [rgC, seval, J04, J02, WKFC, t9, FF]
  refine wst hsn 37 (some 76) (.fieldAddr 46 (.tmp 8) 3) (some (36, true)) ?_
  simp only [rgC, seval, J04, J02, WKFC, J0O, t9, FF]
  refine wst hsn 38 (some 77) (.load 3 (.tmp 76)) (some (36, true)) ?_
  simp only [rgC, seval, J04, J02, WKFC, J0m, J0d, J1V, J0u, J1d, J2a, J2O, J2b, J2N, Nat.zero_add, J0f, decide_true, false_implies, forall_const, t9, FF]
  refine wst hsn 39 (some 78) (.binOp .gtr 3 (.tmp 77) (.const (Value.int IntKind.i64 0)) 3) (some (36, true)) ?_
  simp only [rgC, seval, J04, J02, WKFC, J24, J1y, J1C, J23, J21, J22, t9, FF]
  refine wst hsn 40 (some 79) (.pick (.tmp 75) (.tmp 78) (.const (Value.bool false))) (some (33, false)) ?_
  simp only [rgC, seval, J04, J02, WKFC, t9, FF]
  refine wst hsn 41 (some 80) (.move (.tmp 79)) (some (33, false)) ?_
  simp only [rgC, seval, J04, J02, WKFC, t9, FF]
  refine wst hsn 42 (some 81) (.fieldAddr 46 (.tmp 8) 3) (some (41, true)) ?_
  simp only [rgC, seval, J04, J02, WKFC, J0O, t9, FF]
  refine wst hsn 43 (some 82) (.load 3 (.tmp 81)) (some (41, true)) ?_
  simp only [rgC, seval, J04, J02, WKFC, J0m, J0d, J1V, J0u, J1d, J2a, J2O, J2b, J2N, Nat.zero_add, J0f, decide_true, false_implies, forall_const, t9, FF]
  refine wst hsn 44 (some 83) (.binOp .leq 3 (.tmp 82) (.const (Value.int IntKind.i64 1073741824)) 3) (some (41, true)) ?_
  simp only [rgC, seval, J04, J02, WKFC, J24, J1y, J1C, J23, J21, J22, t9, FF]
  refine wst hsn 45 (some 84) (.pick (.tmp 80) (.tmp 83) (.const (Value.bool false))) (some (33, false)) ?_
  simp only [rgC, seval, J04, J02, WKFC, t9, FF]
  refine wst hsn 46 (some 85) (.pick (.tmp 72) (.const (Value.bool true)) (.tmp 84)) (some (29, true)) ?_
  simp only [rgC, seval, J04, J02, WKFC, t9, FF]
  refine wst hsn 47 (some 86) (.pick (.tmp 68) (.tmp 85) (.const (Value.bool false))) none ?_
  simp only [rgC, seval, J04, J02, WKFC, t9, FF]
  refine wst hsn 48 (some 10) (.assign (.tmp 86)) none ?_
  simp only [rgC, seval, J04, J02, WKFC, t9, FF]
  clear FF
  refine hk _ ?_ ?_
  ·simp only [Tr.get_put, if_true]; first | rfl | simp [*]
  ·intro t ht
   rw [J03 (d := 10) (b := 10) (by decide) ht, J03 (d := 86) (b := 10) (by decide) ht, J03 (d := 85) (b := 10) (by decide) ht, J03 (d := 84) (b := 10) (by decide) ht, J03 (d := 83) (b := 10) (by decide) ht, J03 (d := 82) (b := 10) (by decide) ht, J03 (d := 81) (b := 10) (by decide) ht, J03 (d := 80) (b := 10) (by decide) ht, J03 (d := 79) (b := 10) (by decide) ht, J03 (d := 78) (b := 10) (by decide) ht, J03 (d := 77) (b := 10) (by decide) ht, J03 (d := 76) (b := 10) (by decide) ht, J03 (d := 75) (b := 10) (by decide) ht, J03 (d := 74) (b := 10) (by decide) ht, J03 (d := 73) (b := 10) (by decide) ht, J03 (d := 72) (b := 10) (by decide) ht, J03 (d := 71) (b := 10) (by decide) ht, J03 (d := 70) (b := 10) (by decide) ht, J03 (d := 69) (b := 10) (by decide) ht]
 ·skip
  have FF := And.intro @gd6 (And.intro @gd9 (And.intro @gd15 (And.intro @gd19 (And.intro @gd22 (And.intro @gd29 (And.intro @gd33 (And.intro @gd36 (And.intro @gd41 (And.intro @t8 (And.intro @ga (And.intro @gb (And.intro @hb @t68))))))))))))
  refine wst hsn 30 (some 69) (.fieldAddr 46 (.tmp 8) 3) (some (29, true)) ?_
  simp only [rgC, seval, J04, J02, WKFC, J0O, t9, FF]
  refine wst hsn 31 (some 70) (.load 3 (.tmp 69)) (some (29, true)) ?_
  simp only [rgC, seval, J04, J02, WKFC, J0m, J0d, J1V, J0u, J1d, J2a, J2O, J2b, J2N, Nat.zero_add, J0f, decide_true, false_implies, forall_const, t9, FF]
  refine wst hsn 32 (some 71) (.binOp .eql 3 (.tmp 70) (.const (Value.int IntKind.i64 0)) 3) (some (29, true)) ?_
  simp only [rgC, seval, J04, J02, WKFC, J24, J1y, J1C, J23, J21, J22, t9, FF]
  clear FF
  cases q1 : (x.n == 0)
  ·skip
   have FF := And.intro @gd6 (And.intro @gd9 (And.intro @gd15 (And.intro @gd19 (And.intro @gd22 (And.intro @gd29 (And.intro @gd33 (And.intro @gd36 (And.intro @gd41 (And.intro @t8 (And.intro @ga (And.intro @gb (And.intro @hb (And.intro @t68 @q1)))))))))))))
   refine wst hsn 33 (some 72) (.move (.tmp 71)) (some (29, true)) ?_
   simp only [rgC, seval, J04, J02, WKFC, t9, FF]
   refine wst hsn 34 (some 73) (.fieldAddr 123 (.tmp 9) 2) (some (33, false)) ?_
   simp only [rgC, seval, J04, J02, WKFC, J5G, t9, FF]
   refine wst hsn 35 (some 74) (.load 4 (.tmp 73)) (some (33, false)) ?_
   simp only [rgC, seval, J04, J02, WKFC, J0m, J0d, J1V, J0u, J1d, J2a, J2O, J2b, J2N, Nat.zero_add, J0f, decide_true, false_implies, forall_const, t9, FF]
   refine wst hsn 36 (some 75) (.move (.tmp 74)) (some (33, false)) ?_
   simp only [rgC, seval, J04, J02, WKFC, t9, FF]
   clear FF
   cases nu
   ·skip
    have FF := And.intro @gd6 (And.intro @gd9 (And.intro @gd15 (And.intro @gd19 (And.intro @gd22 (And.intro @gd29 (And.intro @gd33 (And.intro @gd36 (And.intro @gd41 (And.intro @t8 (And.intro @ga (And.intro @gb (And.intro @hb (And.intro @t68 @q1)))))))))))))
    refine wst hsn 37 (some 76) (.fieldAddr 46 (.tmp 8) 3) (some (36, true)) ?_
    simp only [rgC, seval, J04, J02, WKFC, J0O, t9, FF]
    refine wst hsn 38 (some 77) (.load 3 (.tmp 76)) (some (36, true)) ?_
    simp only [rgC, seval, J04, J02, WKFC, J0m, J0d, J1V, J0u, J1d, J2a, J2O, J2b, J2N, Nat.zero_add, J0f, decide_true, false_implies, forall_const, t9, FF]
    refine wst hsn 39 (some 78) (.binOp .gtr 3 (.tmp 77) (.const (Value.int IntKind.i64 0)) 3) (some (36, true)) ?_
    simp only [rgC, seval, J04, J02, WKFC, J24, J1y, J1C, J23, J21, J22, t9, FF]
    refine wst hsn 40 (some 79) (.pick (.tmp 75) (.tmp 78) (.const (Value.bool false))) (some (33, false)) ?_
    simp only [rgC, seval, J04, J02, WKFC, t9, FF]
    refine wst hsn 41 (some 80) (.move (.tmp 79)) (some (33, false)) ?_
    simp only [rgC, seval, J04, J02, WKFC, t9, FF]
    refine wst hsn 42 (some 81) (.fieldAddr 46 (.tmp 8) 3) (some (41, true)) ?_
    simp only [rgC, seval, J04, J02, WKFC, J0O, t9, FF]
    refine wst hsn 43 (some 82) (.load 3 (.tmp 81)) (some (41, true)) ?_
    simp only [rgC, seval, J04, J02, WKFC, J0m, J0d, J1V, J0u, J1d, J2a, J2O, J2b, J2N, Nat.zero_add, J0f, decide_true, false_implies, forall_const, t9, FF]
    refine wst hsn 44 (some 83) (.binOp .leq 3 (.tmp 82) (.const (Value.int IntKind.i64 1073741824)) 3) (some (41, true)) ?_
    simp only [rgC, seval, J04, J02, WKFC, J24, J1y, J1C, J23, J21, J22, t9, FF]
    refine wst hsn 45 (some 84) (.pick (.tmp 80) (.tmp 83) (.const (Value.bool false))) (some (33, false)) ?_
    simp only [rgC, seval, J04, J02, WKFC, t9, FF]
    refine wst hsn 46 (some 85) (.pick (.tmp 72) (.const (Value.bool true)) (.tmp 84)) (some (29, true)) ?_
    simp only [rgC, seval, J04, J02, WKFC, t9, FF]
    refine wst hsn 47 (some 86) (.pick (.tmp 68) (.tmp 85) (.const (Value.bool false))) none ?_
    simp only [rgC, seval, J04, J02, WKFC, t9, FF]
    refine wst hsn 48 (some 10) (.assign (.tmp 86)) none ?_
    simp only [rgC, seval, J04, J02, WKFC, t9, FF]
    clear FF
    refine hk _ ?_ ?_
    ·simp only [Tr.get_put, if_true]; first | rfl | simp [*]
    ·intro t ht
     rw [J03 (d := 10) (b := 10) (by decide) ht, J03 (d := 86) (b := 10) (by decide) ht, J03 (d := 85) (b := 10) (by decide) ht, J03 (d := 84) (b := 10) (by decide) ht, J03 (d := 83) (b := 10) (by decide) ht, J03 (d := 82) (b := 10) (by decide) ht, J03 (d := 81) (b := 10) (by decide) ht, J03 (d := 80) (b := 10) (by decide) ht, J03 (d := 79) (b := 10) (by decide) ht, J03 (d := 78) (b := 10) (by decide) ht, J03 (d := 77) (b := 10) (by decide) ht, J03 (d := 76) (b := 10) (by decide) ht, J03 (d := 75) (b := 10) (by decide) ht, J03 (d := 74) (b := 10) (by decide) ht, J03 (d := 73) (b := 10) (by decide) ht, J03 (d := 72) (b := 10) (by decide) ht, J03 (d := 71) (b := 10) (by decide) ht, J03 (d := 70) (b := 10) (by decide) ht, J03 (d := 69) (b := 10) (by decide) ht]
   ·skip
    have FF := And.intro @gd6 (And.intro @gd9 (And.intro @gd15 (And.intro @gd19 (And.intro @gd22 (And.intro @gd29 (And.intro @gd33 (And.intro @gd36 (And.intro @gd41 (And.intro @t8 (And.intro @ga (And.intro @gb (And.intro @hb (And.intro @t68 @q1)))))))))))))
    refine wst hsn 37 (some 76) (.fieldAddr 46 (.tmp 8) 3) (some (36, true)) ?_
    simp only [rgC, seval, J04, J02, WKFC, J0O, t9, FF]
    refine wst hsn 38 (some 77) (.load 3 (.tmp 76)) (some (36, true)) ?_
    simp only [rgC, seval, J04, J02, WKFC, J0m, J0d, J1V, J0u, J1d, J2a, J2O, J2b, J2N, Nat.zero_add, J0f, decide_true, false_implies, forall_const, t9, FF]
    refine wst hsn 39 (some 78) (.binOp .gtr 3 (.tmp 77) (.const (Value.int IntKind.i64 0)) 3) (some (36, true)) ?_
    simp only [rgC, seval, J04, J02, WKFC, J24, J1y, J1C, J23, J21, J22, t9, FF]
    clear FF
    cases q3 : decide (x.n > 0)
    ·skip
     have FF := And.intro @gd6 (And.intro @gd9 (And.intro @gd15 (And.intro @gd19 (And.intro @gd22 (And.intro @gd29 (And.intro @gd33 (And.intro @gd36 (And.intro @gd41 (And.intro @t8 (And.intro @ga (And.intro @gb (And.intro @hb (And.intro @t68 (And.intro @q1 @q3))))))))))))))
     refine wst hsn 40 (some 79) (.pick (.tmp 75) (.tmp 78) (.const (Value.bool false))) (some (33, false)) ?_
     simp only [rgC, seval, J04, J02, WKFC, t9, FF]
     refine wst hsn 41 (some 80) (.move (.tmp 79)) (some (33, false)) ?_
     simp only [rgC, seval, J04, J02, WKFC, t9, FF]
     refine wst hsn 42 (some 81) (.fieldAddr 46 (.tmp 8) 3) (some (41, true)) ?_
     simp only [rgC, seval, J04, J02, WKFC, J0O, t9, FF]
     refine wst hsn 43 (some 82) (.load 3 (.tmp 81)) (some (41, true)) ?_
     simp only [rgC, seval, J04, J02, WKFC, J0m, J0d, J1V, J0u, J1d, J2a, J2O, J2b, J2N, Nat.zero_add, J0f, decide_true, false_implies, forall_const, t9, FF]
     refine wst hsn 44 (some 83) (.binOp .leq 3 (.tmp 82) (.const (Value.int IntKind.i64 1073741824)) 3) (some (41, true)) ?_
     simp only [rgC, seval, J04, J02, WKFC, J24, J1y, J1C, J23, J21, J22, t9, FF]
     refine wst hsn 45 (some 84) (.pick (.tmp 80) (.tmp 83) (.const (Value.bool false))) (some (33, false)) ?_
     simp only [rgC, seval, J04, J02, WKFC, t9, FF]
     refine wst hsn 46 (some 85) (.pick (.tmp 72) (.const (Value.bool true)) (.tmp 84)) (some (29, true)) ?_
     simp only [rgC, seval, J04, J02, WKFC, t9, FF]
     refine wst hsn 47 (some 86) (.pick (.tmp 68) (.tmp 85) (.const (Value.bool false))) none ?_
     simp only [rgC, seval, J04, J02, WKFC, t9, FF]
     refine wst hsn 48 (some 10) (.assign (.tmp 86)) none ?_
     simp only [rgC, seval, J04, J02, WKFC, t9, FF]
     clear FF
     refine hk _ ?_ ?_
     ·simp only [Tr.get_put, if_true]; first | rfl | simp [*]
     ·intro t ht
      rw [J03 (d := 10) (b := 10) (by decide) ht, J03 (d := 86) (b := 10) (by decide) ht, J03 (d := 85) (b := 10) (by decide) ht, J03 (d := 84) (b := 10) (by decide) ht, J03 (d := 83) (b := 10) (by decide) ht, J03 (d := 82) (b := 10) (by decide) ht, J03 (d := 81) (b := 10) (by decide) ht, J03 (d := 80) (b := 10) (by decide) ht, J03 (d := 79) (b := 10) (by decide) ht, J03 (d := 78) (b := 10) (by decide) ht, J03 (d := 77) (b := 10) (by decide) ht, J03 (d := 76) (b := 10) (by decide) ht, J03 (d := 75) (b := 10) (by decide) ht, J03 (d := 74) (b := 10) (by decide) ht, J03 (d := 73) (b := 10) (by decide) ht, J03 (d := 72) (b := 10) (by decide) ht, J03 (d := 71) (b := 10) (by decide) ht, J03 (d := 70) (b := 10) (by decide) ht, J03 (d := 69) (b := 10) (by decide) ht]
    ·skip
     have FF := And.intro @gd6 (And.intro @gd9 (And.intro @gd15 (And.intro @gd19 (And.intro @gd22 (And.intro @gd29 (And.intro @gd33 (And.intro @gd36 (And.intro @gd41 (And.intro @t8 (And.intro @ga (And.intro @gb (And.intro @hb (And.intro @t68 (And.intro @q1 @q3))))))))))))))
     refine wst hsn 40 (some 79) (.pick (.tmp 75) (.tmp 78) (.const (Value.bool false))) (some (33, false)) ?_
     simp only [rgC, seval, J04, J02, WKFC, t9, FF]
     refine wst hsn 41 (some 80) (.move (.tmp 79)) (some (33, false)) ?_
     simp only [rgC, seval, J04, J02, WKFC, t9, FF]
     refine wst hsn 42 (some 81) (.fieldAddr 46 (.tmp 8) 3) (some (41, true)) ?_
     simp only [rgC, seval, J04, J02, WKFC, J0O, t9, FF]
     refine wst hsn 43 (some 82) (.load 3 (.tmp 81)) (some (41, true)) ?_
     simp only [rgC, seval, J04, J02, WKFC, J0m, J0d, J1V, J0u, J1d, J2a, J2O, J2b, J2N, Nat.zero_add, J0f, decide_true, false_implies, forall_const, t9, FF]
     refine wst hsn 44 (some 83) (.binOp .leq 3 (.tmp 82) (.const (Value.int IntKind.i64 1073741824)) 3) (some (41, true)) ?_
     simp only [rgC, seval, J04, J02, WKFC, J24, J1y, J1C, J23, J21, J22, t9, FF]
     clear FF
     cases q4 : decide (x.n ≤ 1073741824)
     ·skip
      have FF := And.intro @gd6 (And.intro @gd9 (And.intro @gd15 (And.intro @gd19 (And.intro @gd22 (And.intro @gd29 (And.intro @gd33 (And.intro @gd36 (And.intro @gd41 (And.intro @t8 (And.intro @ga (And.intro @gb (And.intro @hb (And.intro @t68 (And.intro @q1 (And.intro @q3 @q4)))))))))))))))
      refine wst hsn 45 (some 84) (.pick (.tmp 80) (.tmp 83) (.const (Value.bool false))) (some (33, false)) ?_
      simp only [rgC, seval, J04, J02, WKFC, t9, FF]
      refine wst hsn 46 (some 85) (.pick (.tmp 72) (.const (Value.bool true)) (.tmp 84)) (some (29, true)) ?_
      simp only [rgC, seval, J04, J02, WKFC, t9, FF]
      refine wst hsn 47 (some 86) (.pick (.tmp 68) (.tmp 85) (.const (Value.bool false))) none ?_
      simp only [rgC, seval, J04, J02, WKFC, t9, FF]
      refine wst hsn 48 (some 10) (.assign (.tmp 86)) none ?_
      simp only [rgC, seval, J04, J02, WKFC, t9, FF]
      clear FF
      refine hk _ ?_ ?_
      ·simp only [Tr.get_put, if_true]; first | rfl | simp [*]
      ·intro t ht
       rw [J03 (d := 10) (b := 10) (by decide) ht, J03 (d := 86) (b := 10) (by decide) ht, J03 (d := 85) (b := 10) (by decide) ht, J03 (d := 84) (b := 10) (by decide) ht, J03 (d := 83) (b := 10) (by decide) ht, J03 (d := 82) (b := 10) (by decide) ht, J03 (d := 81) (b := 10) (by decide) ht, J03 (d := 80) (b := 10) (by decide) ht, J03 (d := 79) (b := 10) (by decide) ht, J03 (d := 78) (b := 10) (by decide) ht, J03 (d := 77) (b := 10) (by decide) ht, J03 (d := 76) (b := 10) (by decide) ht, J03 (d := 75) (b := 10) (by decide) ht, J03 (d := 74) (b := 10) (by decide) ht, J03 (d := 73) (b := 10) (by decide) ht, J03 (d := 72) (b := 10) (by decide) ht, J03 (d := 71) (b := 10) (by decide) ht, J03 (d := 70) (b := 10) (by decide) ht, J03 (d := 69) (b := 10) (by decide) ht]
     ·skip
      have FF := And.intro @gd6 (And.intro @gd9 (And.intro @gd15 (And.intro @gd19 (And.intro @gd22 (And.intro @gd29 (And.intro @gd33 (And.intro @gd36 (And.intro @gd41 (And.intro @t8 (And.intro @ga (And.intro @gb (And.intro @hb (And.intro @t68 (And.intro @q1 (And.intro @q3 @q4)))))))))))))))
      refine wst hsn 45 (some 84) (.pick (.tmp 80) (.tmp 83) (.const (Value.bool false))) (some (33, false)) ?_
      simp only [rgC, seval, J04, J02, WKFC, t9, FF]
      refine wst hsn 46 (some 85) (.pick (.tmp 72) (.const (Value.bool true)) (.tmp 84)) (some (29, true)) ?_
      simp only [rgC, seval, J04, J02, WKFC, t9, FF]
      refine wst hsn 47 (some 86) (.pick (.tmp 68) (.tmp 85) (.const (Value.bool false))) none ?_
      simp only [rgC, seval, J04, J02, WKFC, t9, FF]
      refine wst hsn 48 (some 10) (.assign (.tmp 86)) none ?_
      simp only [rgC, seval, J04, J02, WKFC, t9, FF]
      clear FF
      refine hk _ ?_ ?_
      ·simp only [Tr.get_put, if_true]; first | rfl | simp [*]
      ·intro t ht
       rw [J03 (d := 10) (b := 10) (by decide) ht, J03 (d := 86) (b := 10) (by decide) ht, J03 (d := 85) (b := 10) (by decide) ht, J03 (d := 84) (b := 10) (by decide) ht, J03 (d := 83) (b := 10) (by decide) ht, J03 (d := 82) (b := 10) (by decide) ht, J03 (d := 81) (b := 10) (by decide) ht, J03 (d := 80) (b := 10) (by decide) ht, J03 (d := 79) (b := 10) (by decide) ht, J03 (d := 78) (b := 10) (by decide) ht, J03 (d := 77) (b := 10) (by decide) ht, J03 (d := 76) (b := 10) (by decide) ht, J03 (d := 75) (b := 10) (by decide) ht, J03 (d := 74) (b := 10) (by decide) ht, J03 (d := 73) (b := 10) (by decide) ht, J03 (d := 72) (b := 10) (by decide) ht, J03 (d := 71) (b := 10) (by decide) ht, J03 (d := 70) (b := 10) (by decide) ht, J03 (d := 69) (b := 10) (by decide) ht]
  ·skip
   have FF := And.intro @gd6 (And.intro @gd9 (And.intro @gd15 (And.intro @gd19 (And.intro @gd22 (And.intro @gd29 (And.intro @gd33 (And.intro @gd36 (And.intro @gd41 (And.intro @t8 (And.intro @ga (And.intro @gb (And.intro @hb (And.intro @t68 @q1)))))))))))))
   refine wst hsn 33 (some 72) (.move (.tmp 71)) (some (29, true)) ?_
   simp only [rgC, seval, J04, J02, WKFC, t9, FF]
   refine wst hsn 34 (some 73) (.fieldAddr 123 (.tmp 9) 2) (some (33, false)) ?_
   simp only [rgC, seval, J04, J02, WKFC, J5G, t9, FF]
   refine wst hsn 35 (some 74) (.load 4 (.tmp 73)) (some (33, false)) ?_
   simp only [rgC, seval, J04, J02, WKFC, J0m, J0d, J1V, J0u, J1d, J2a, J2O, J2b, J2N, Nat.zero_add, J0f, decide_true, false_implies, forall_const, t9, FF]
   refine wst hsn 36 (some 75) (.move (.tmp 74)) (some (33, false)) ?_
   simp only [rgC, seval, J04, J02, WKFC, t9, FF]
   refine wst hsn 37 (some 76) (.fieldAddr 46 (.tmp 8) 3) (some (36, true)) ?_
   simp only [rgC, seval, J04, J02, WKFC, J0O, t9, FF]
   refine wst hsn 38 (some 77) (.load 3 (.tmp 76)) (some (36, true)) ?_
   simp only [rgC, seval, J04, J02, WKFC, J0m, J0d, J1V, J0u, J1d, J2a, J2O, J2b, J2N, Nat.zero_add, J0f, decide_true, false_implies, forall_const, t9, FF]
   refine wst hsn 39 (some 78) (.binOp .gtr 3 (.tmp 77) (.const (Value.int IntKind.i64 0)) 3) (some (36, true)) ?_
   simp only [rgC, seval, J04, J02, WKFC, J24, J1y, J1C, J23, J21, J22, t9, FF]
   refine wst hsn 40 (some 79) (.pick (.tmp 75) (.tmp 78) (.const (Value.bool false))) (some (33, false)) ?_
   simp only [rgC, seval, J04, J02, WKFC, t9, FF]
   refine wst hsn 41 (some 80) (.move (.tmp 79)) (some (33, false)) ?_
   simp only [rgC, seval, J04, J02, WKFC, t9, FF]
   refine wst hsn 42 (some 81) (.fieldAddr 46 (.tmp 8) 3) (some (41, true)) ?_
   simp only [rgC, seval, J04, J02, WKFC, J0O, t9, FF]
   refine wst hsn 43 (some 82) (.load 3 (.tmp 81)) (some (41, true)) ?_
   simp only [rgC, seval, J04, J02, WKFC, J0m, J0d, J1V, J0u, J1d, J2a, J2O, J2b, J2N, Nat.zero_add, J0f, decide_true, false_implies, forall_const, t9, FF]
   refine wst hsn 44 (some 83) (.binOp .leq 3 (.tmp 82) (.const (Value.int IntKind.i64 1073741824)) 3) (some (41, true)) ?_
   simp only [rgC, seval, J04, J02, WKFC, J24, J1y, J1C, J23, J21, J22, t9, FF]
   refine wst hsn 45 (some 84) (.pick (.tmp 80) (.tmp 83) (.const (Value.bool false))) (some (33, false)) ?_
   simp only [rgC, seval, J04, J02, WKFC, t9, FF]
   refine wst hsn 46 (some 85) (.pick (.tmp 72) (.const (Value.bool true)) (.tmp 84)) (some (29, true)) ?_
   simp only [rgC, seval, J04, J02, WKFC, t9, FF]
   refine wst hsn 47 (some 86) (.pick (.tmp 68) (.tmp 85) (.const (Value.bool false))) none ?_
   simp only [rgC, seval, J04, J02, WKFC, t9, FF]
   refine wst hsn 48 (some 10) (.assign (.tmp 86)) none ?_
   simp only [rgC, seval, J04, J02, WKFC, t9, FF]
   clear FF
   refine hk _ ?_ ?_
   ·simp only [Tr.get_put, if_true]; first | rfl | simp [*]
   ·intro t ht
    rw [J03 (d := 10) (b := 10) (by decide) ht, J03 (d := 86) (b := 10) (by decide) ht, J03 (d := 85) (b := 10) (by decide) ht, J03 (d := 84) (b := 10) (by decide) ht, J03 (d := 83) (b := 10) (by decide) ht, J03 (d := 82) (b := 10) (by decide) ht, J03 (d := 81) (b := 10) (by decide) ht, J03 (d := 80) (b := 10) (by decide) ht, J03 (d := 79) (b := 10) (by decide) ht, J03 (d := 78) (b := 10) (by decide) ht, J03 (d := 77) (b := 10) (by decide) ht, J03 (d := 76) (b := 10) (by decide) ht, J03 (d := 75) (b := 10) (by decide) ht, J03 (d := 74) (b := 10) (by decide) ht, J03 (d := 73) (b := 10) (by decide) ht, J03 (d := 72) (b := 10) (by decide) ht, J03 (d := 71) (b := 10) (by decide) ht, J03 (d := 70) (b := 10) (by decide) ht, J03 (d := 69) (b := 10) (by decide) ht]
end
end Go.Proofs.YtipekdhneagdbaaDoor
