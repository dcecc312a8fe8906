/- Part 12 of what the claim leans on: 5 texts laid one behind another. -/
import Derived.Test.YtipekdhneagdbaaDoorC11
namespace Go.Proofs.YtipekdhneagdbaaDoor
open Go Go.Sx
set_option maxRecDepth 100000
set_option linter.unusedSimpArgs false
set_option linter.unusedVariables false
def ints (l : List Int) : List Value := l.map (.int .i64 ·)
theorem J6g (l : List Int) (i : Nat) : (ints l)[i]? = (l[i]?).map (.int .i64 ·) := by simp [ints]
theorem J1h (l : List Int) : (ints l).length = l.length := by simp [ints]
theorem J5u (l : List Int) : (ints l).all one = true := by simp [ints, one]
theorem J66 (l : List Int) (i : Nat) (x : Int) : (ints l).set i (.int .i64 x) = ints (l.set i x) := by simp [ints, List.map_set]
theorem by3 : byOf Tryd.prog 3 = some 8 := by kernel_rfl
theorem J8P : J1w Tryd.prog 3 = some (.int .i64 0) := by kernel_rfl
theorem J8K : ∀ n, J3e [Value.int .i64 0] n = ints (List.replicate n 0)
 | 0 => rfl
 | n + 1 => by rw [J3e, J8K n]; simp [ints, List.replicate_succ]
theorem J8p {h : SHeap} {n : Nat} (hn : n < 1099511627776) : J2l Tryd.prog h 28 (.int .i64 (n : Int)) (.int .i64 (n : Int)) = some (.slice (some ⟨h.next, 0, none⟩) n n, h.push (.row (ints (List.replicate n 0)) 3 false false)) := by
 have hz : (Value.int .i64 0).cells = #[.int .i64 0] := rfl
 simp only [J2l, Tryd.underlying28, sz3, J8P, by3, hz, Jad]
 rw [if_pos (by simp; omega)]
 simp [J8K]
theorem J1F {id n c i : Nat} (hi : i < n) : J0R Tryd.prog 28 (.slice (some ⟨id, 0, none⟩) n c) (.int .i64 (i : Int)) = some (.pointer (some ⟨id, i, none⟩)) := by
 simp only [J0R, Tryd.underlying28, sz3, J0q]
 rw [if_pos (by omega)]
 simp
theorem J2z {l : List Int} {i : Nat} {x : Int} {ty : TypeId} {g ro : Bool} (hx : l[i]? = some x) : ld1 i (.row (ints l) ty g ro) = some (.int .i64 x) := by
 simp [ld1, J6g, hx]
theorem J9J {cs : List Value} {off : Nat} {v : Value} (h : off < cs.length) : Go.Sx.lay cs off [v] = cs.set off v := by
 apply List.ext_getElem?
 intro k
 rw [J5E (by simp; omega), List.getElem?_set]
 by_cases hk : off = k
 ·subst hk
  simp [h]
 ·rw [if_neg (by simp; omega), if_neg hk]
theorem J59 {h : SHeap} {id i : Nat} {l : List Int} {x : Int} {ty : TypeId} {g : Bool} (hg : h.get id = .row (ints l) ty g false) (hi : i < l.length) (hf : h.floor ≤ id) : J0K Tryd.prog h 3 (.pointer (some ⟨id, i, none⟩)) (.int .i64 x) = some (h.put id (.row (ints (l.set i x)) ty g false)) := by
 have hc : (Value.int .i64 x).cells = #[.int .i64 x] := rfl
 simp only [J0K, hc, sz3, J1q, hg]
 have hsz : (some 1 : Option Nat) = some (#[Value.int .i64 x] : Array Value).size := rfl
 rw [if_pos hsz, if_pos (by simp [one, J1h]; omega), J9J (by rw [J1h]; exact hi), J66]
def SameKids (L l : List RowN) : Prop := L.length = l.length ∧ ∀ (i : Nat) x, l[i]? = some x → ∃ y, L[i]? = some y ∧ y.kids = x.kids
theorem sameKids_refl (l : List RowN) : SameKids l l := ⟨rfl, fun i x h => ⟨x, h, rfl⟩⟩
section
variable {call : J0r} {n : Nat}
set_option maxHeartbeats 16000000 in
theorem ends_walkP' {l L : List RowN} {v : Value} {h : SHeap} (ht : J2c l) (hsk : SameKids L l) (hv : J0l h v L) (hlen : l.length < 1099511627776) (hn : l.length + 3 < n) (hfl : h.floor ≤ h.next) :
  ∃ h', J0L Tryd.prog call n 49 [v] h = some (.slice (some ⟨h.next, 0, none⟩) l.length l.length, h') ∧ (h'.get h.next = .row (ints (J0o l)) 3 false false ∧ h'.next = h.next + 1 ∧ h'.floor = h.floor ∧ ∀ i, i < h.next → h'.get i = h.get i) := by
 refine J1N (R := fun h' => h'.get h.next = .row (ints (J0o l)) 3 false false ∧ h'.next = h.next + 1 ∧ h'.floor = h.floor ∧ ∀ i, i < h.next → h'.get i = h.get i) Tryd.func49 rfl (by simp [Tryd.f49]) ?_
 have hr : Tryd.f49.results.toList = [.tmp 2] := rfl
 have hl22 : ∀ h', lenS Tryd.prog h' 22 v = some (.int .i64 l.length) := fun h' => by rw [← hsk.1]; exact hv.len
 have hpos := ht.pos
 have w0 : IntKind.i64.wrap ((l.length : Int) - 1) = (l.length : Int) - 1 := J0s (by omega) (by omega)
 simp only [evC, seval, ↓evP, rpC, hr, hl22, J8p hlen, w0]
 refine WK.loop (fun j s => s.T.get 0 = v ∧ s.T.get 3 = .slice (some ⟨h.next, 0, none⟩) l.length l.length ∧ s.T.get 4 = iv ((l.length : Int) - 1 - (j : Int)) ∧ s.h.next = h.next + 1 ∧ s.h.floor = h.floor ∧ (∀ i, i < h.next → s.h.get i = h.get i) ∧
  ∃ E : List Int, E.length = l.length ∧ s.h.get h.next = .row (ints E) 3 false false ∧ ∀ i, l.length - j ≤ i → i < l.length → E[i]? = some (endN l i : Int)) l.length (by omega) ?_ ?_
 ·simp only [evC, seval, ↓evP, rpC]
  refine ⟨by omega, fun i hi => by rw [if_neg (by omega)], List.replicate l.length 0, by simp, rfl, fun i h1 h2 => by omega⟩
 ·rintro j ⟨T1, h1⟩ hj ⟨t0, t3, t4, hnx, hf1, hold, E, hE, hgE, hEv⟩
  simp only at t0 t3 t4 hnx hf1 hold hgE
  by_cases hlt : j < l.length
  ·obtain ⟨at_, hat⟩ : ∃ a : Nat, (l.length : Int) - 1 - (j : Int) = (a : Int) := ⟨l.length - 1 - j, by omega⟩
   have hatl : at_ < l.length := by omega
   rw [hat] at t4
   have c1 : decide ((at_ : Int) ≥ 0) = true := by simp
   have w1 : IntKind.i64.wrap ((at_ : Int) + 1) = ((at_ + 1 : Nat) : Int) := J0s (by omega) (by omega)
   have w2 : IntKind.i64.wrap ((at_ : Int) - 1) = (l.length : Int) - 1 - ((j + 1 : Nat) : Int) := by rw [J0s (by omega) (by omega)]; omega
   have hsub := ht.end hatl
   obtain ⟨x, hx, hk0, hkk, hchain⟩ := hsub.kids
   have hv1 : J0l h1 v L := hv.mono (by omega) hold
   obtain ⟨y, hy, hyk⟩ := hsk.2 at_ x hx
   obtain ⟨id, q, e0, hid, l0, l1, l2, l3, l4, lr⟩ := hv1.row hy
   rw [hyk] at l4
   have hcl := J2o _ _ _ hchain
   have hel := hsub.lt
   simp only [evC, seval, ↓evP, rpC, t0, t3, t4, c1, w1, e0, l4]
   refine WK.loop (fun k s => s.h = h1 ∧ s.T.get 0 = v ∧ s.T.get 3 = .slice (some ⟨h.next, 0, none⟩) l.length l.length ∧ s.T.get 4 = iv at_ ∧ s.T.get 23 = iv k ∧ s.T.get 22 = .int .i64 x.kids ∧ ∃ p : Nat, s.T.get 5 = iv p ∧ at_ < p ∧ k ≤ x.kids.toNat ∧ J35 l (x.kids.toNat - k) p (endN l at_)) x.kids.toNat (by omega) ?_ ?_
   ·simp only [evC, ↓reduceIte, Nat.reduceEqDiff, reduceCtorEq, ↓evP, rpC, Nat.reduceAdd, Nat.reduceLT, t0, t3, t4]
    refine ⟨rfl, at_ + 1, rfl, by omega, by rw [Nat.sub_zero]; exact hchain⟩
   ·rintro k ⟨T2, h2⟩ hk ⟨rfl, u0, u3, u4, u23, u22, p, u5, hp, hkk2, hch⟩
    simp only at u0 u3 u4 u23 u22 u5
    by_cases hlt2 : k < x.kids.toNat
    ·have c2 : decide ((k : Int) < x.kids) = true := by simp only [decide_eq_true_eq]; omega
     obtain ⟨r, hr1⟩ : ∃ r, x.kids.toNat - k = r + 1 := ⟨x.kids.toNat - k - 1, by omega⟩
     rw [hr1] at hch
     obtain ⟨p', s1, s2, s3, s4⟩ := hch
     have hEp := hEv p (by omega) (by omega)
     rw [J5P s1] at hEp
     have w5 : IntKind.i64.wrap ((k : Int) + 1) = ((k + 1 : Nat) : Int) := J0s (by omega) (by omega)
     simp only [evC, seval, ↓evP, rpC, u0, u3, u4, u23, u22, u5, c2, J1F (show p < l.length by omega), hgE, J2z hEp, w5]
     exact ⟨hlt2, p', rfl, by omega, by omega, by rw [show x.kids.toNat - (k + 1) = r by omega]; exact s4⟩
    ·have c2 : decide ((k : Int) < x.kids) = false := by simp only [decide_eq_false_iff_not]; omega
     rw [show x.kids.toNat - k = 0 by omega] at hch
     have hpe : p = endN l at_ := hch
     have hst := J59 (x := (p : Int)) hgE (show at_ < E.length by omega) (by rw [hf1]; exact hfl)
     have hnx' : h2.next = h.next + 1 := hnx
     have hltT : (h.next < h2.next) = True := by rw [hnx']; simp
     simp only [evC, seval, ↓evP, rpC, u0, u3, u4, u23, u22, u5, c2, J1F hatl, hst, w2, hltT]
     refine ⟨hlt, hnx, hf1, fun i hi => by rw [if_neg (by omega)]; exact hold i hi, E.set at_ (p : Int), by rw [List.length_set]; exact hE, rfl, fun i h1 h2 => ?_⟩
     rw [List.getElem?_set]
     by_cases hia : at_ = i
     ·subst hia
      rw [if_pos rfl, if_pos (by omega), hpe]
     ·rw [if_neg hia]
      exact hEv i (by omega) h2
  ·have c1 : decide ((l.length : Int) - 1 - (j : Int) ≥ 0) = false := by simp only [decide_eq_false_iff_not]; omega
   have hEe : E = J0o l := by
    apply List.ext_getElem?
    intro i
    by_cases hi : i < l.length
    ·rw [hEv i (by omega) hi, J2B hi]
    ·rw [List.getElem?_eq_none (by omega), List.getElem?_eq_none (by rw [J39]; omega)]
   subst hEe
   simp only [evC, seval, ↓evP, rpC, hr, t0, t3, t4, c1]
   exact ⟨hgE, hnx, hf1, hold⟩
set_option maxHeartbeats 16000000 in
theorem ends_walkR' {l L : List RowN} {v : Value} {h : SHeap} (ht : J2c l) (hsk : SameKids L l) (hv : J0l h v L) (hlen : l.length < 1099511627776) (hn : l.length + 3 < n) (hfl : h.floor ≤ h.next) :
  ∃ h', J0L Tryd.prog call n 56 [v] h = some (.slice (some ⟨h.next, 0, none⟩) l.length l.length, h') ∧ (h'.get h.next = .row (ints (J0o l)) 3 false false ∧ h'.next = h.next + 1 ∧ h'.floor = h.floor ∧ ∀ i, i < h.next → h'.get i = h.get i) := by
 refine J1N (R := fun h' => h'.get h.next = .row (ints (J0o l)) 3 false false ∧ h'.next = h.next + 1 ∧ h'.floor = h.floor ∧ ∀ i, i < h.next → h'.get i = h.get i) Tryd.func56 rfl (by simp [Tryd.f56]) ?_
 have hr : Tryd.f56.results.toList = [.tmp 2] := rfl
 have hl22 : ∀ h', lenS Tryd.prog h' 22 v = some (.int .i64 l.length) := fun h' => by rw [← hsk.1]; exact hv.len
 have hpos := ht.pos
 have w0 : IntKind.i64.wrap ((l.length : Int) - 1) = (l.length : Int) - 1 := J0s (by omega) (by omega)
 simp only [evC, seval, ↓evP, rpC, hr, hl22, J8p hlen, w0]
 refine WK.loop (fun j s => s.T.get 0 = v ∧ s.T.get 3 = .slice (some ⟨h.next, 0, none⟩) l.length l.length ∧ s.T.get 4 = iv ((l.length : Int) - 1 - (j : Int)) ∧ s.h.next = h.next + 1 ∧ s.h.floor = h.floor ∧ (∀ i, i < h.next → s.h.get i = h.get i) ∧
  ∃ E : List Int, E.length = l.length ∧ s.h.get h.next = .row (ints E) 3 false false ∧ ∀ i, l.length - j ≤ i → i < l.length → E[i]? = some (endN l i : Int)) l.length (by omega) ?_ ?_
 ·simp only [evC, seval, ↓evP, rpC]
  refine ⟨by omega, fun i hi => by rw [if_neg (by omega)], List.replicate l.length 0, by simp, rfl, fun i h1 h2 => by omega⟩
 ·rintro j ⟨T1, h1⟩ hj ⟨t0, t3, t4, hnx, hf1, hold, E, hE, hgE, hEv⟩
  simp only at t0 t3 t4 hnx hf1 hold hgE
  by_cases hlt : j < l.length
  ·obtain ⟨at_, hat⟩ : ∃ a : Nat, (l.length : Int) - 1 - (j : Int) = (a : Int) := ⟨l.length - 1 - j, by omega⟩
   have hatl : at_ < l.length := by omega
   rw [hat] at t4
   have c1 : decide ((at_ : Int) ≥ 0) = true := by simp
   have w1 : IntKind.i64.wrap ((at_ : Int) + 1) = ((at_ + 1 : Nat) : Int) := J0s (by omega) (by omega)
   have w2 : IntKind.i64.wrap ((at_ : Int) - 1) = (l.length : Int) - 1 - ((j + 1 : Nat) : Int) := by rw [J0s (by omega) (by omega)]; omega
   have hsub := ht.end hatl
   obtain ⟨x, hx, hk0, hkk, hchain⟩ := hsub.kids
   have hv1 : J0l h1 v L := hv.mono (by omega) hold
   obtain ⟨y, hy, hyk⟩ := hsk.2 at_ x hx
   obtain ⟨id, q, e0, hid, l0, l1, l2, l3, l4, lr⟩ := hv1.row hy
   rw [hyk] at l4
   have hcl := J2o _ _ _ hchain
   have hel := hsub.lt
   simp only [evC, ↓reduceIte, Nat.reduceEqDiff, reduceCtorEq, ↓evP, rpC, Nat.reduceAdd, Nat.reduceLT, t0, t3, t4, c1, w1, e0, l4]
   refine WK.loop (fun k s => s.h = h1 ∧ s.T.get 0 = v ∧ s.T.get 3 = .slice (some ⟨h.next, 0, none⟩) l.length l.length ∧ s.T.get 4 = iv at_ ∧ s.T.get 6 = iv k ∧ ∃ p : Nat, s.T.get 5 = iv p ∧ at_ < p ∧ k ≤ x.kids.toNat ∧ J35 l (x.kids.toNat - k) p (endN l at_)) x.kids.toNat (by omega) ?_ ?_
   ·simp only [evC, ↓reduceIte, Nat.reduceEqDiff, reduceCtorEq, ↓evP, rpC, Nat.reduceAdd, Nat.reduceLT, t0, t3, t4]
    refine ⟨rfl, at_ + 1, rfl, by omega, by rw [Nat.sub_zero]; exact hchain⟩
   ·rintro k ⟨T2, h2⟩ hk ⟨rfl, u0, u3, u4, u6, p, u5, hp, hkk2, hch⟩
    simp only at u0 u3 u4 u6 u5
    by_cases hlt2 : k < x.kids.toNat
    ·have c2 : decide ((k : Int) < x.kids) = true := by simp only [decide_eq_true_eq]; omega
     obtain ⟨r, hr1⟩ : ∃ r, x.kids.toNat - k = r + 1 := ⟨x.kids.toNat - k - 1, by omega⟩
     rw [hr1] at hch
     obtain ⟨p', s1, s2, s3, s4⟩ := hch
     have hEp := hEv p (by omega) (by omega)
     rw [J5P s1] at hEp
     have w5 : IntKind.i64.wrap ((k : Int) + 1) = ((k + 1 : Nat) : Int) := J0s (by omega) (by omega)
     simp only [evC, seval, ↓evP, rpC, u0, u3, u4, u6, u5, c2, e0, l4, J1F (show p < l.length by omega), hgE, J2z hEp, w5]
     exact ⟨hlt2, p', rfl, by omega, by omega, by rw [show x.kids.toNat - (k + 1) = r by omega]; exact s4⟩
    ·have c2 : decide ((k : Int) < x.kids) = false := by simp only [decide_eq_false_iff_not]; omega
     rw [show x.kids.toNat - k = 0 by omega] at hch
     have hpe : p = endN l at_ := hch
     have hst := J59 (x := (p : Int)) hgE (show at_ < E.length by omega) (by rw [hf1]; exact hfl)
     have hnx' : h2.next = h.next + 1 := hnx
     have hltT : (h.next < h2.next) = True := by rw [hnx']; simp
     simp only [evC, seval, ↓evP, rpC, u0, u3, u4, u6, u5, c2, e0, l4, J1F hatl, hst, w2, hltT]
     refine ⟨hlt, hnx, hf1, fun i hi => by rw [if_neg (by omega)]; exact hold i hi, E.set at_ (p : Int), by rw [List.length_set]; exact hE, rfl, fun i h1 h2 => ?_⟩
     rw [List.getElem?_set]
     by_cases hia : at_ = i
     ·subst hia
      rw [if_pos rfl, if_pos (by omega), hpe]
     ·rw [if_neg hia]
      exact hEv i (by omega) h2
  ·have c1 : decide ((l.length : Int) - 1 - (j : Int) ≥ 0) = false := by simp only [decide_eq_false_iff_not]; omega
   have hEe : E = J0o l := by
    apply List.ext_getElem?
    intro i
    by_cases hi : i < l.length
    ·rw [hEv i (by omega) hi, J2B hi]
    ·rw [List.getElem?_eq_none (by omega), List.getElem?_eq_none (by rw [J39]; omega)]
   subst hEe
   simp only [evC, seval, ↓evP, rpC, hr, t0, t3, t4, c1]
   exact ⟨hgE, hnx, hf1, hold⟩
theorem JbW {l : List RowN} {v : Value} {h : SHeap} (ht : J2c l) (hv : J0l h v l) (hlen : l.length < 1099511627776) (hn : l.length + 3 < n) (hfl : h.floor ≤ h.next) :
  ∃ h', J0L Tryd.prog call n 49 [v] h = some (.slice (some ⟨h.next, 0, none⟩) l.length l.length, h') ∧ (h'.get h.next = .row (ints (J0o l)) 3 false false ∧ h'.next = h.next + 1 ∧ h'.floor = h.floor ∧ ∀ i, i < h.next → h'.get i = h.get i) := ends_walkP' ht (sameKids_refl l) hv hlen hn hfl
theorem JbF {l : List RowN} {v : Value} {h : SHeap} (ht : J2c l) (hv : J0l h v l) (hlen : l.length < 1099511627776) (hn : l.length + 3 < n) (hfl : h.floor ≤ h.next) :
  ∃ h', J0L Tryd.prog call n 56 [v] h = some (.slice (some ⟨h.next, 0, none⟩) l.length l.length, h') ∧ (h'.get h.next = .row (ints (J0o l)) 3 false false ∧ h'.next = h.next + 1 ∧ h'.floor = h.floor ∧ ∀ i, i < h.next → h'.get i = h.get i) := ends_walkR' ht (sameKids_refl l) hv hlen hn hfl
end
def J3q (w : Int) : Int := if w = 8 then 0 else if w = 9 then 1 else w
def J4C (w : Int) : Prop := w = 8 ∨ w = 9 ∨ w = 2 ∨ w = 3 ∨ w = 4 ∨ w = 5 ∨ w = 6 ∨ w = 7
theorem J5Z {w k : Int} (h : J1c w k = true) : 1 ≤ k ∧ k ≤ 54 := by
 unfold J1c at h
 split at h
 ·simp at h; omega
 ·exact J2H h
theorem J26 {P : Program} {t : TypeId} {x y : Operand} {a b : ByteArray} : binS P .neq t x y (.string a) (.string b) = some (.bool (!(a == b))) := by
 have e : J0k P (do eqGuard .neq t x y (.string a) (.string b); binOp .neq t (.string a) (.string b)) = some (.bool (!(a == b))) := by
  rw [J0c]
  have g : J0k P (eqGuard .neq t x y (.string a) (.string b)) = some () := rfl
  rw [g, ← JdF]
  simp [binOp, Op.stringOp, Option.bind]
  rfl
 have hf : flat (.string a) = true := rfl
 have hf2 : flat (.string b) = true := rfl
 simp only [binS, hf, hf2, J2F, Bool.and_self, if_true, e]
theorem J7B {s : ByteArray} (h : (s == ⟨#[]⟩) = true) : J09 s = false := by
 have := J3o h
 subst this
 rfl
section
variable {call : J0r} {n : Nat} {h : SHeap}
theorem J9H {k : Int} : J0L Tryd.prog call n 101 [iv k] h = some (.bool (decide (k ≥ 2) && decide (k ≤ 7)), h) := by
 refine J1m Tryd.func101 rfl (by simp [Tryd.f101]) ?_
 have hr : Tryd.f101.results.toList = [.tmp 2] := rfl
 cases d : decide (k ≥ 2) <;> simp only [evC, seval, ↓evP, rpC, hr, d, Bool.false_and]
theorem J83 {k : Int} : J0L Tryd.prog call n 102 [iv k] h = some (.bool (J0E k), h) := by
 refine J1m Tryd.func102 rfl (by simp [Tryd.f102]) ?_
 have hr : Tryd.f102.results.toList = [.tmp 2] := rfl
 unfold J0E
 cases d : decide (k ≥ 8) <;> simp only [evC, seval, ↓evP, rpC, hr, d, Bool.false_and]
theorem J8F {k : Int} : J0L Tryd.prog call n 119 [iv k] h = some (.bool (decide (k ≥ 11) && decide (k ≤ 23)), h) := by
 refine J1m Tryd.func119 rfl (by simp [Tryd.f119]) ?_
 have hr : Tryd.f119.results.toList = [.tmp 2] := rfl
 cases d : decide (k ≥ 11) <;> simp only [evC, seval, ↓evP, rpC, hr, d, Bool.false_and]
theorem J9e {k : Int} : J0L Tryd.prog call n 120 [iv k] h = some (.bool (decide (k ≥ 27) && decide (k ≤ 54)), h) := by
 refine J1m Tryd.func120 rfl (by simp [Tryd.f120]) ?_
 have hr : Tryd.f120.results.toList = [.tmp 2] := rfl
 cases d : decide (k ≥ 27) <;> simp only [evC, seval, ↓evP, rpC, hr, d, Bool.false_and]
set_option maxHeartbeats 8000000 in
theorem J9k {w k : Int} (hw : J4C w) (hD : call 101 [iv k] h = some (.bool (decide (k ≥ 2) && decide (k ≤ 7)), h)) (hE : call 102 [iv k] h = some (.bool (J0E k), h))
  (hG : call 119 [iv k] h = some (.bool (decide (k ≥ 11) && decide (k ≤ 23)), h)) (hX : call 120 [iv k] h = some (.bool (decide (k ≥ 27) && decide (k ≤ 54)), h)) :
  J0L Tryd.prog call n 111 [iv k, iv (J3q w)] h = some (.bool (J1c w k), h) := by
 refine J1m Tryd.func111 rfl (by simp [Tryd.f111]) ?_
 have hr : Tryd.f111.results.toList = [.tmp 4] := rfl
 unfold J0E at hE
 rcases hw with rfl | rfl | rfl | rfl | rfl | rfl | rfl | rfl
 ·have e : J3q 8 = 0 := rfl
  have e2 : J1c 8 k = (k == 1) := rfl
  rw [e, e2]
  simp only [evC, seval, ↓evP, rpC, Int.reduceBEq, hr]
 ·have e : J3q 9 = 1 := rfl
  have e2 : J1c 9 k = (decide (k ≥ 2) && decide (k ≤ 10)) := rfl
  rw [e, e2]
  cases d : (decide (k ≥ 2) && decide (k ≤ 7)) with
  | true =>
   rw [d] at hD
   have : (decide (k ≥ 2) && decide (k ≤ 10)) = true := by simp only [Bool.and_eq_true, decide_eq_true_eq] at d ⊢; omega
   simp only [evC, seval, ↓evP, rpC, Int.reduceBEq, hr, hD, this]
  | false =>
   rw [d] at hD
   have : (decide (k ≥ 2) && decide (k ≤ 10)) = (decide (k ≥ 8) && decide (k ≤ 10)) := by
    simp only [Bool.and_eq_false_iff, decide_eq_false_iff_not] at d
    apply Bool.eq_iff_iff.2
    simp only [Bool.and_eq_true, decide_eq_true_eq]
    omega
   simp only [evC, seval, ↓evP, rpC, Int.reduceBEq, hr, hD, hE, this]
 ·have e : J3q 2 = 2 := rfl
  have e2 : J1c 2 k = (k == 11) := rfl
  rw [e, e2]
  simp only [evC, seval, ↓evP, rpC, Int.reduceBEq, hr]
 ·have e : J3q 3 = 3 := rfl
  have e2 : J1c 3 k = (decide (k ≥ 11) && decide (k ≤ 23)) := rfl
  rw [e, e2]
  simp only [evC, seval, ↓evP, rpC, Int.reduceBEq, hr, hG]
 ·have e : J3q 4 = 4 := rfl
  have e2 : J1c 4 k = (k == 11 || k == 12) := rfl
  rw [e, e2]
  cases d : (k == 11) <;> simp only [evC, seval, ↓evP, rpC, Int.reduceBEq, hr, d, Bool.true_or, Bool.false_or]
 ·have e : J3q 5 = 5 := rfl
  have e2 : J1c 5 k = (k == 25 || k == 26) := rfl
  rw [e, e2]
  cases d : (k == 25) <;> simp only [evC, seval, ↓evP, rpC, Int.reduceBEq, hr, d, Bool.true_or, Bool.false_or]
 ·have e : J3q 6 = 6 := rfl
  have e2 : J1c 6 k = (k == 24) := rfl
  rw [e, e2]
  simp only [evC, seval, ↓evP, rpC, Int.reduceBEq, hr]
 ·have e : J3q 7 = 7 := rfl
  have e2 : J1c 7 k = (decide (k ≥ 27) && decide (k ≤ 54)) := rfl
  rw [e, e2]
  simp only [evC, seval, ↓evP, rpC, Int.reduceBEq, hr, hX]
abbrev rowV (x : RowN) : Value := .agg #[iv x.kind, .string x.name, iv x.ends, iv x.n, iv x.kids]
theorem J3Z {x : RowN} : (rowV x).cells.toList = [iv x.kind, .string x.name, iv x.ends, iv x.n, iv x.kids] := rfl
set_option maxHeartbeats 16000000 in
theorem Jbb {w : Int} {x : RowN} (hS : ∀ h, call 111 [iv x.kind, iv (J3q w)] h = some (.bool (J1c w x.kind), h))
  (hE : ∀ h, 1 ≤ x.kind ∧ x.kind ≤ 54 → call 112 [iv x.kind] h = some (.bool (endK x.kind), h)) (hN : ∀ h, 1 ≤ x.kind ∧ x.kind ≤ 54 → call 113 [iv x.kind] h = some (.bool (J3l x.kind), h))
  (hI : ∀ h, call 114 [.string x.name] h = some (.bool (J09 x.name), h)) (hM : ∀ h, 1 ≤ x.kind ∧ x.kind ≤ 54 → call 115 [iv x.kind] h = some (.tuple #[iv (J1U x.kind), iv (J1r x.kind)], h)) :
  ∃ h', J0L Tryd.prog call n 100 [rowV x, iv (J3q w)] (J2v 1 0) = some (.bool (J1c w x.kind && fitN J09 x), h') ∧ True := by
 refine J1N (R := fun _ => True) Tryd.func100 rfl (by simp [Tryd.f100]) ?_
 have hr : Tryd.f100.results.toList = [.tmp 4] := rfl
 have hone : ([iv x.kind, .string x.name, iv x.ends, iv x.n, iv x.kids] : List Value).all one = true := rfl
 generalize hV : (J1c w x.kind && fitN J09 x) = V
 cases hs : J1c w x.kind with
 | false =>
  rw [hs] at hV hS
  rw [Bool.false_and] at hV
  subst hV
  simp only [evC, seval, ↓evP, rpC, hr, J3Z, hone, sz46, hS]
 | true =>
  rw [hs] at hV hS
  rw [Bool.true_and] at hV
  have hk := J5Z hs
  have hE' := fun h => hE h hk
  have hN' := fun h => hN h hk
  have hM' := fun h => hM h hk
  clear hE hN hM
  have hq : (x.name == ByteArray.empty) = (x.name == ⟨#[]⟩) := rfl
  unfold fitN at hV
  rw [hq] at hV
  have hQe : (x.name == ⟨#[]⟩) = true → J09 x.name = false := J7B
  generalize hKK : Kont.top (fun e s => (e = SExit.normal ∨ e = SExit.ret) ∧ ∃ vs, resS Tryd.prog s Tryd.f100.results.toList = some vs ∧ resV vs = Value.bool V ∧ True) = K
  have fin : ∀ (T' : Tr) H b, T'.get 4 = .bool b → b = V → K.ap Tryd.prog call n .ret ⟨T', H⟩ := fun T' H b h4 hb => by
   subst hb
   rw [← hKK]
   simp only [evC, seval, ↓evP, rpC, hr, h4]
  have retF : ∀ (T' : Tr) H, T'.get 4 = .bool false → V = false → K.ap Tryd.prog call n .ret ⟨T', H⟩ := fun T' H h4 hb => fin T' H false h4 hb.symm
  have JaC : ∀ T' : Tr, T'.get 2 = .pointer (some ⟨1, 0, none⟩) → (decide (x.kids ≥ J1U x.kind) && (decide (J1r x.kind < 0) || decide (x.kids ≤ J1r x.kind))) = V →
    WK Tryd.prog call n (rt (rt (rt (rt (Tryd.f100.body.getD .skip))))) ⟨T', (J2v 1 0).push (.row [iv x.kind, .string x.name, iv x.ends, iv x.n, iv x.kids] 46 false false)⟩ K := by
   intro T' t2 hv
   show WK _ _ _ (.seq _ _) _ _
   cases d1 : decide (x.kids ≥ J1U x.kind) with
   | false =>
    rw [d1, Bool.false_and] at hv
    simp only [evC, seval, ↓evP, rpC, t2, hM', d1]
    exact fin _ _ false (by simp only [Tr.get_put, if_true]) hv
   | true =>
    rw [d1, Bool.true_and] at hv
    cases d2 : decide (J1r x.kind < 0) with
    | true =>
     rw [d2, Bool.true_or] at hv
     simp only [evC, seval, ↓evP, rpC, t2, hM', d1, d2]
     exact fin _ _ true (by simp only [Tr.get_put, if_true]) hv
    | false =>
     rw [d2, Bool.false_or] at hv
     simp only [evC, seval, ↓evP, rpC, t2, hM', d1, d2]
     exact fin _ _ _ (by simp only [Tr.get_put, if_true]) hv
  have Jab : ∀ T' : Tr, T'.get 2 = .pointer (some ⟨1, 0, none⟩) → ((x.n == 0 || x.kind == 27 && decide (x.n > 0) && decide (x.n ≤ 1073741824)) && (decide (x.kids ≥ J1U x.kind) && (decide (J1r x.kind < 0) || decide (x.kids ≤ J1r x.kind)))) = V →
    WK Tryd.prog call n (rt (rt (rt (Tryd.f100.body.getD .skip)))) ⟨T', (J2v 1 0).push (.row [iv x.kind, .string x.name, iv x.ends, iv x.n, iv x.kids] 46 false false)⟩ K := by
   intro T' t2 hv
   show WK _ _ _ (.seq _ (rt (rt (rt (rt (Tryd.f100.body.getD .skip)))))) _ _
   cases k27 : (x.kind == 27) with
   | true =>
    have k27' : (x.kind != 27) = false := by rw [bne, k27]; rfl
    cases d1 : decide (x.n < 0) with
    | true =>
     have f0 : (x.n == 0) = false := by rw [beq_eq_false_iff_ne]; simp only [decide_eq_true_eq] at d1; omega
     have f1 : decide (x.n > 0) = false := by simp only [decide_eq_true_eq] at d1; simp only [decide_eq_false_iff_not]; omega
     rw [f0, f1] at hv
     simp only [evC, seval, ↓evP, rpC, t2, k27, k27', d1]
     exact retF _ _ (by simp only [Tr.get_put, if_true]) (by rw [← hv]; simp)
    | false =>
     cases d2 : decide (x.n > 1073741824) with
     | true =>
      have f0 : (x.n == 0) = false := by rw [beq_eq_false_iff_ne]; simp only [decide_eq_true_eq] at d2; omega
      have f1 : decide (x.n ≤ 1073741824) = false := by simp only [decide_eq_true_eq] at d2; simp only [decide_eq_false_iff_not]; omega
      rw [f0, f1] at hv
      simp only [evC, seval, ↓evP, rpC, t2, k27, k27', d1, d2]
      exact retF _ _ (by simp only [Tr.get_put, if_true]) (by rw [← hv]; simp)
     | false =>
      have f1 : (x.n == 0 || decide (x.n > 0) && decide (x.n ≤ 1073741824)) = true := by
       simp only [decide_eq_false_iff_not] at d1 d2
       simp only [Bool.or_eq_true, Bool.and_eq_true, decide_eq_true_eq, beq_iff_eq]
       omega
      rw [k27, Bool.true_and, f1, Bool.true_and] at hv
      simp only [evC, seval, ↓evP, rpC, t2, k27, k27', d1, d2]
      exact JaC _ (by simp only [Tr.get_put, Option.some.injEq, Nat.reduceEqDiff, if_false, t2]) hv
   | false =>
    have k27' : (x.kind != 27) = true := by rw [bne, k27]; rfl
    cases d1 : (x.n == 0) with
    | false =>
     have d1' : (x.n != 0) = true := by rw [bne, d1]; rfl
     rw [d1, k27] at hv
     simp only [evC, seval, ↓evP, rpC, t2, k27, k27', d1']
     exact retF _ _ (by simp only [Tr.get_put, if_true]) (by rw [← hv]; simp)
    | true =>
     have d1' : (x.n != 0) = false := by rw [bne, d1]; rfl
     rw [d1, Bool.true_or, Bool.true_and] at hv
     simp only [evC, seval, ↓evP, rpC, t2, k27, k27', d1']
     exact JaC _ (by simp only [Tr.get_put, Option.some.injEq, Nat.reduceEqDiff, if_false, t2]) hv
  have JaS : ∀ T' : Tr, T'.get 2 = .pointer (some ⟨1, 0, none⟩) → (((J09 x.name == J3l x.kind) && (J3l x.kind || x.name == ⟨#[]⟩)) && ((x.n == 0 || x.kind == 27 && decide (x.n > 0) && decide (x.n ≤ 1073741824)) && (decide (x.kids ≥ J1U x.kind) && (decide (J1r x.kind < 0) || decide (x.kids ≤ J1r x.kind))))) = V →
    WK Tryd.prog call n (rt (rt (Tryd.f100.body.getD .skip))) ⟨T', (J2v 1 0).push (.row [iv x.kind, .string x.name, iv x.ends, iv x.n, iv x.kids] 46 false false)⟩ K := by
   intro T' t2 hv
   show WK _ _ _ (.seq _ (rt (rt (rt (Tryd.f100.body.getD .skip))))) _ _
   cases nm : J3l x.kind with
   | true =>
    rw [nm] at hv hN'
    cases ni : J09 x.name with
    | true =>
     rw [ni] at hv hI
     simp only [evC, seval, ↓evP, rpC, t2, hN', hI]
     exact Jab _ (by simp only [Tr.get_put, Option.some.injEq, Nat.reduceEqDiff, if_false, t2]) (by rw [← hv]; simp)
    | false =>
     rw [ni] at hv hI
     simp only [evC, seval, ↓evP, rpC, t2, hN', hI]
     exact retF _ _ (by simp only [Tr.get_put, if_true]) (by rw [← hv]; simp)
   | false =>
    rw [nm] at hv hN'
    cases q3 : (x.name == ⟨#[]⟩) with
    | true =>
     rw [q3, hQe q3] at hv
     simp only [evC, seval, ↓evP, rpC, t2, hN', J26, q3]
     exact Jab _ (by simp only [Tr.get_put, Option.some.injEq, Nat.reduceEqDiff, if_false, t2]) (by rw [← hv]; simp)
    | false =>
     rw [q3] at hv
     simp only [evC, seval, ↓evP, rpC, t2, hN', J26, q3]
     exact retF _ _ (by simp only [Tr.get_put, if_true]) (by rw [← hv]; simp)
  have hv : ((x.ends == 0 || endK x.kind && x.ends == 1) && (((J09 x.name == J3l x.kind) && (J3l x.kind || x.name == ⟨#[]⟩)) && ((x.n == 0 || x.kind == 27 && decide (x.n > 0) && decide (x.n ≤ 1073741824)) && (decide (x.kids ≥ J1U x.kind) && (decide (J1r x.kind < 0) || decide (x.kids ≤ J1r x.kind)))))) = V := by
   rw [← hV]
   generalize (J09 x.name == J3l x.kind && (J3l x.kind || x.name == { data := #[] })) = a
   generalize (x.ends == 0 || endK x.kind && x.ends == 1) = b
   generalize (x.n == 0 || x.kind == 27 && decide (x.n > 0) && decide (x.n ≤ 1073741824)) = c
   cases a <;> cases b <;> cases c <;> simp
  show WK _ _ _ (.seq _ (.seq _ (rt (rt (Tryd.f100.body.getD .skip))))) _ _
  cases d1 : decide (x.ends < 0) with
  | true =>
   have f0 : (x.ends == 0) = false := by rw [beq_eq_false_iff_ne]; simp only [decide_eq_true_eq] at d1; omega
   have f1 : (x.ends == 1) = false := by rw [beq_eq_false_iff_ne]; simp only [decide_eq_true_eq] at d1; omega
   rw [f0, f1] at hv
   simp only [evC, seval, ↓evP, rpC, J3Z, hone, sz46, hS, d1]
   exact retF _ _ (by simp only [Tr.get_put, if_true]) (by rw [← hv]; simp)
  | false =>
   cases d2 : decide (x.ends > 1) with
   | true =>
    have f0 : (x.ends == 0) = false := by rw [beq_eq_false_iff_ne]; simp only [decide_eq_true_eq] at d2; omega
    have f1 : (x.ends == 1) = false := by rw [beq_eq_false_iff_ne]; simp only [decide_eq_true_eq] at d2; omega
    rw [f0, f1] at hv
    simp only [evC, seval, ↓evP, rpC, J3Z, hone, sz46, hS, d1, d2]
    exact retF _ _ (by simp only [Tr.get_put, if_true]) (by rw [← hv]; simp)
   | false =>
    simp only [decide_eq_false_iff_not] at d1 d2
    have d1' : decide (x.ends < 0) = false := decide_eq_false d1
    have d2' : decide (x.ends > 1) = false := decide_eq_false d2
    cases d3 : (x.ends == 1) with
    | false =>
     have f0 : (x.ends == 0) = true := by rw [beq_iff_eq]; rw [beq_eq_false_iff_ne] at d3; omega
     rw [f0, Bool.true_or, Bool.true_and] at hv
     simp only [evC, seval, ↓evP, rpC, J3Z, hone, sz46, hS, d1', d2', d3]
     exact JaS _ (by simp only [Tr.get_put, Option.some.injEq, Nat.reduceEqDiff, if_false, if_true]) hv
    | true =>
     have f0 : (x.ends == 0) = false := by rw [beq_eq_false_iff_ne]; rw [beq_iff_eq] at d3; omega
     cases en : endK x.kind with
     | true =>
      rw [f0, d3, en] at hv
      rw [en] at hE'
      simp only [evC, seval, ↓evP, rpC, J3Z, hone, sz46, hS, d1', d2', d3, hE']
      exact JaS _ (by simp only [Tr.get_put, Option.some.injEq, Nat.reduceEqDiff, if_false, if_true]) (by rw [← hv]; simp)
     | false =>
      rw [f0, en] at hv
      rw [en] at hE'
      simp only [evC, seval, ↓evP, rpC, J3Z, hone, sz46, hS, d1', d2', d3, hE']
      exact retF _ _ (by simp only [Tr.get_put, if_true]) (by rw [← hv]; simp)
end
theorem szO : szOf Tryd.prog 135 = some 3 := by kernel_rfl
theorem aggO : J2X Tryd.prog 135 = some true := by kernel_rfl
theorem byO : byOf Tryd.prog 135 = some 24 := by kernel_rfl
theorem Je7 : J1w Tryd.prog 135 = some (.agg #[iv 0, iv 0, iv 0]) := by kernel_rfl
theorem JgF : J2Q Tryd.prog (match Tryd.prog.underlying 135 with | some (.struct fs) => fs.toList | _ => []) = some [(0, 1), (1, 1), (2, 1)] := by kernel_rfl
abbrev J9y (a b c : Int) : Value := .agg #[iv a, iv b, iv c]
theorem J97 {a b c : Int} : flat (J9y a b c) = true := rfl
theorem J79 {a b c : Int} : (J9y a b c).cells = #[iv a, iv b, iv c] := rfl
theorem Jif {a b : Int} : J1P Tryd.prog 135 [(0, iv a), (1, iv b)] = some (J9y a b 0) := by
 have h := JgF
 rw [Tryd.underlying135] at h
 simp only at h
 simp only [J1P, Je7, J97, if_true, Tryd.underlying135, h]
 rfl
section
variable {id off : Nat} {h : SHeap}
theorem Jaa : J08 Tryd.prog 135 (.pointer (some ⟨id, off, none⟩)) 0 = some (.pointer (some ⟨id, off, none⟩)) := by simp [J08, Tryd.underlying135, sz3, J0q]
theorem J6c : J08 Tryd.prog 135 (.pointer (some ⟨id, off, none⟩)) 1 = some (.pointer (some ⟨id, off + 1, none⟩)) := by simp [J08, Tryd.underlying135, sz3, J0q]
theorem J9Z : J08 Tryd.prog 135 (.pointer (some ⟨id, off, none⟩)) 2 = some (.pointer (some ⟨id, off + 2, none⟩)) := by simp [J08, Tryd.underlying135, sz3, J0q]
theorem JhB : J2x Tryd.prog h 135 (.pointer (some ⟨id, off, none⟩)) = ldN 3 off (h.get id) := J5S aggO szO
theorem idxO {n c i : Nat} (hi : i < n) : J0R Tryd.prog 133 (.slice (some ⟨id, 0, none⟩) n c) (iv (i : Int)) = some (.pointer (some ⟨id, i * 3, none⟩)) := by
 simp only [J0R, Tryd.underlying133, szO, J0q]
 rw [if_pos (by omega)]
 simp
theorem lenO {a : Option Addr} {n c : Nat} : lenS Tryd.prog h 133 (.slice a n c) = some (iv (n : Int)) := by simp [lenS, Tryd.underlying133]
theorem bsO {a b c : Int} : J0Q Tryd.prog h 133 1 [(0, J9y a b c)] = some (.slice (some ⟨h.next, 0, none⟩) 1 1, h.push (.row [iv a, iv b, iv c] 135 false false)) := by
 simp [J0Q, Tryd.underlying133, szO, Je7, flat, J1i, J79, J0G, J5k, J3e, Go.Sx.lay]
theorem Jhj {n k : Nat} (hk : k ≤ n) : J2M Tryd.prog h 133 (.slice (some ⟨id, 0, none⟩) n unk) none (some (iv (k : Int))) none = some (.slice (some ⟨id, 0, none⟩) k unk) := by
 simp only [J2M, Tryd.underlying133, szO, if_true, J3a]
 rw [if_pos (by omega)]
 simp
theorem st1 {cs : List Value} {x : Int} {ty : TypeId} {g : Bool} (hg : h.get id = .row cs ty g false) (hi : off < cs.length) (hf : h.floor ≤ id) : J0K Tryd.prog h 3 (.pointer (some ⟨id, off, none⟩)) (iv x) = some (h.put id (.row (cs.set off (iv x)) ty g false)) := by
 have hc : (iv x).cells = #[iv x] := rfl
 have hsz : (some 1 : Option Nat) = some (#[iv x] : Array Value).size := rfl
 simp only [J0K, hc, sz3, J1q, hg]
 rw [if_pos hsz, if_pos (by simp [one]; omega), J9J hi]
noncomputable def stO3 (h : SHeap) (id : Nat) (a b c : Int) : SObj → Option SHeap
 | .row [_, _, _] ty g false => if h.floor ≤ id then some (h.put id (.row [iv a, iv b, iv c] ty g false)) else none
 | _ => J0K Tryd.prog h 135 (.pointer (some ⟨id, 0, none⟩)) (J9y a b c)
theorem Ji8 {a b c : Int} : J0K Tryd.prog h 135 (.pointer (some ⟨id, 0, none⟩)) (J9y a b c) = stO3 h id a b c (h.get id) := by
 unfold stO3
 split
 ·rename_i x y z ty g hg
  split
  ·rename_i hf
   simp [J0K, szO, J1q, hg, hf, Go.Sx.lay, Value.cells, one]
  ·rename_i hf
   simp [J0K, szO, J1q, hg, hf, Go.Sx.lay, Value.cells, one]
 ·rfl
theorem Jfd {a b c : Int} {x y z : Value} {ty : TypeId} {g : Bool} : stO3 h id a b c (.row [x, y, z] ty g false) = if h.floor ≤ id then some (h.put id (.row [iv a, iv b, iv c] ty g false)) else none := rfl
theorem JiG {a b c : Value} {ty : TypeId} {g ro : Bool} : ldN 3 0 (.row [a, b, c] ty g ro) = some (.agg #[a, b, c]) := rfl
end
def fr3 (f : Frame) : List Value := [iv f.kind, iv (f.left : Int), iv (f.next : Int)]
def J1L : List Frame → List Value
 | [] => []
 | f :: s => J1L s ++ fr3 f
theorem J3t : ∀ s, (J1L s).length = s.length * 3
 | [] => rfl
 | f :: s => by simp [J1L, J3t s, fr3]; omega
theorem J7l : ∀ s, (J1L s).all one = true
 | [] => rfl
 | f :: s => by rw [J1L, List.all_append, J7l s]; rfl
def J2U (m : Nat) (h : SHeap) (v : Value) (s : List Frame) : Prop :=
 (s = [] ∧ v = .slice none 0 0) ∨ ∃ id ex, v = .slice (some ⟨id, 0, none⟩) s.length unk ∧ h.get id = .row (J1L s ++ ex) 135 true false ∧ m ≤ id ∧ id < h.next
theorem J2U.len {m : Nat} {h h' : SHeap} {v : Value} {s : List Frame} (hs : J2U m h v s) : lenS Tryd.prog h' 133 v = some (iv (s.length : Int)) := by
 rcases hs with ⟨rfl, rfl⟩ | ⟨id, ex, rfl, _⟩
 ·exact lenO
 ·exact lenO
theorem J2U.mono {m : Nat} {h h' : SHeap} {v : Value} {s : List Frame} (hs : J2U m h v s) (hn : h.next ≤ h'.next) (hg : ∀ i, m ≤ i → i < h.next → h'.get i = h.get i) : J2U m h' v s := by
 rcases hs with h1 | ⟨id, ex, h1, h2, h3, h4⟩
 ·exact .inl h1
 ·exact .inr ⟨id, ex, h1, by rw [hg id h3 h4]; exact h2, h3, by omega⟩
theorem J2U.top {m : Nat} {h : SHeap} {v : Value} {f : Frame} {s : List Frame} (hs : J2U m h v (f :: s)) :
  ∃ id ex, v = .slice (some ⟨id, 0, none⟩) (s.length + 1) unk ∧ h.get id = .row (J1L s ++ (fr3 f ++ ex)) 135 true false ∧ m ≤ id ∧ id < h.next := by
 rcases hs with ⟨h1, _⟩ | ⟨id, ex, h1, h2, h3, h4⟩
 ·cases h1
 ·exact ⟨id, ex, h1, by rw [h2, J1L, List.append_assoc], h3, h4⟩
theorem J8f {s : List Frame} {f : Frame} {ex : List Value} {ty : TypeId} {g ro : Bool} : ld1 (s.length * 3) (.row (J1L s ++ (fr3 f ++ ex)) ty g ro) = some (iv f.kind) ∧ ld1 (s.length * 3 + 1) (.row (J1L s ++ (fr3 f ++ ex)) ty g ro) = some (iv (f.left : Int)) ∧
  ld1 (s.length * 3 + 2) (.row (J1L s ++ (fr3 f ++ ex)) ty g ro) = some (iv (f.next : Int)) ∧ ldN 3 (s.length * 3) (.row (J1L s ++ (fr3 f ++ ex)) ty g ro) = some (J9y f.kind f.left f.next) := by
 have hl := J3t s
 refine ⟨?_, ?_, ?_, ?_⟩
 ·simp only [ld1]
  rw [List.getElem?_append_right (by omega), show s.length * 3 - (J1L s).length = 0 by omega]
  rfl
 ·simp only [ld1]
  rw [List.getElem?_append_right (by omega), show s.length * 3 + 1 - (J1L s).length = 1 by omega]
  rfl
 ·simp only [ld1]
  rw [List.getElem?_append_right (by omega), show s.length * 3 + 2 - (J1L s).length = 2 by omega]
  rfl
 ·simp only [ldN, cut]
  rw [List.drop_append_of_le_length (by omega), List.drop_of_length_le (by omega), List.nil_append]
  simp [fr3]
theorem Jeg {s : List Frame} {f : Frame} {ex : List Value} {x : Nat} : (J1L s ++ (fr3 f ++ ex)).set (s.length * 3 + 2) (iv (x : Int)) = J1L s ++ (fr3 ⟨f.kind, f.left, x⟩ ++ ex) := by
 have hl := J3t s
 rw [List.set_append_right _ _ (by omega), show s.length * 3 + 2 - (J1L s).length = 2 by omega]
 rfl
theorem Jfg {s : List Frame} {f : Frame} {ex : List Value} {x : Nat} : (J1L s ++ (fr3 f ++ ex)).set (s.length * 3 + 1) (iv (x : Int)) = J1L s ++ (fr3 ⟨f.kind, x, f.next⟩ ++ ex) := by
 have hl := J3t s
 rw [List.set_append_right _ _ (by omega), show s.length * 3 + 1 - (J1L s).length = 1 by omega]
 rfl
theorem J8Z {m : Nat} {h : SHeap} {v : Value} {s : List Frame} {a b c : Int} {f : Frame} (hf1 : fr3 f = [iv a, iv b, iv c]) (hs : J2U m h v s) (hf : h.floor ≤ m) (hm : m ≤ h.next) (hl : s.length < 1000000000) :
  ∃ v' h', J1o Tryd.prog (h.push (.row [iv a, iv b, iv c] 135 false false)) 133 v (.slice (some ⟨h.next, 0, none⟩) 1 1) = some (v', h') ∧ J2U m h' v' (f :: s) ∧ h'.floor = h.floor ∧ h.next ≤ h'.next ∧ ∀ i, i < m → h'.get i = h.get i := by
 have hnew : (h.push (.row [iv a, iv b, iv c] 135 false false)).get h.next = .row [iv a, iv b, iv c] 135 false false := J0h
 have hold : ∀ i, i < h.next → (h.push (.row [iv a, iv b, iv c] 135 false false)).get i = h.get i := fun i hi => J06 hi
 have hfl1 : (h.push (.row [iv a, iv b, iv c] 135 false false)).floor = h.floor := rfl
 have hnx1 : (h.push (.row [iv a, iv b, iv c] 135 false false)).next = h.next + 1 := rfl
 generalize h.push (.row [iv a, iv b, iv c] 135 false false) = h1 at *
 have hsrc : J16 h1 3 1 (.slice (some ⟨h.next, 0, none⟩) 1 1) = some [iv a, iv b, iv c] := by simp [J16, hnew, cut]
 have hz : (Value.agg #[iv 0, iv 0, iv 0]).cells.size = 3 := rfl
 have hone : ([iv a, iv b, iv c] : List Value).all one = true := rfl
 have hlen := J3t s
 rcases hs with ⟨rfl, rfl⟩ | ⟨id, ex, rfl, hg, hid, hidn⟩
 ·refine ⟨.slice (some ⟨h1.next, 0, none⟩) 1 unk, h1.push (.row [iv a, iv b, iv c] 135 true false), ?_, .inr ⟨h1.next, [], rfl, ?_, by omega, by show h1.next < h1.next + 1; omega⟩, hfl1, by show h.next ≤ h1.next + 1; omega, fun i hi => by rw [J06 (by omega), hold i (by omega)]⟩
  ·have hu : (0 : Nat) ≠ unk := by unfold unk; omega
   have h0 : J16 h1 3 0 (.slice none 0 0) = some [] := rfl
   simp only [J1o, Tryd.underlying133, szO, byO, Je7, hz, hsrc, hone, hu, h0, show (0 < 3) = True by simp, decide_true, beq_self_eq_true, Bool.and_self, if_true, if_false, Nat.le_refl, Nat.zero_add, Nat.zero_mul, show (1 ≤ 0) = False by simp, Nat.zero_le, List.nil_append, Nat.one_mul, show (24 ≤ 140737488355328) = True by simp, show (1 ≤ 140737488355328) = True by simp]
  ·rw [J0h, List.append_nil, J1L, hf1]
   rfl
 ·have e1 : (s.length + 1) * 24 ≤ 140737488355328 := by omega
  have e2 : s.length + 1 ≤ 140737488355328 := by omega
  have e3 : h1.floor ≤ id := by omega
  have e4 : s.length ≤ unk := by unfold unk; omega
  have hg1 : h1.get id = .row (J1L s ++ ex) 135 true false := by rw [hold id hidn]; exact hg
  have hcut : cut (J1L s ++ ex) 0 (s.length * 3) = some (J1L s) := by
   simp only [cut, List.drop_zero]
   rw [List.take_append_of_le_length (by omega), List.take_of_length_le (by omega), if_pos hlen]
  refine ⟨.slice (some ⟨h1.next, 0, none⟩) (s.length + 1) unk, (h1.put id .dead).push (.row (J1L s ++ [iv a, iv b, iv c]) 135 true false), ?_, .inr ⟨h1.next, [], rfl, ?_, by omega, by show h1.next < h1.next + 1; omega⟩, hfl1, by show h.next ≤ h1.next + 1; omega, fun i hi => ?_⟩
  ·simp only [J1o, Tryd.underlying133, szO, byO, Je7, hz, hsrc, hone, e1, e2, e3, e4, hg1, hcut, J7l, decide_true, Bool.and_self, beq_self_eq_true, show (0 < 3) = True by simp, if_true, Nat.one_ne_zero, if_false]
  ·rw [List.append_nil, J1L, hf1]
   exact J0h
  ·rw [J06 (by show i < h1.next; omega), J05 (by omega) (by omega), hold i (by omega)]
structure ThN where
 name : ByteArray
 kind : Int
 num : Int
 known : Int
structure StN where
 rows : List RowN
 queues : List (ByteArray × Bool)
 vars : List ByteArray
 tags : List ByteArray
 rules : List Int
 on : List Int
 miss : Int
 things : List ThN
def J30 (l : List ThN) (x : ByteArray) : Option ThN := l.find? fun t => x == t.name
def cntN (s : StN) (k : Int) : Nat := if k = 1 then s.queues.length else if k = 2 then s.vars.length else if k = 3 then s.tags.length else s.rules.length
def J3g (k : Int) : Int := if k = 1 then 16 else if k = 2 then 16 else if k = 3 then 4 else 64
def setN (l : List RowN) (at_ : Nat) (n : Int) : List RowN := match l[at_]? with
 | some x => l.set at_ { x with n := n }
 | none => l
def addN (at_ : Nat) (end_ : Int) (x : RowN) (s : StN) : StN :=
 let k := J0j x.kind
 { rows := setN s.rows at_ (cntN s k)
   queues := if k = 1 then s.queues ++ [(x.name, x.kind == 3)] else s.queues
   vars := if k = 2 then s.vars ++ [x.name] else s.vars
   tags := if k = 3 then s.tags ++ [x.name] else s.tags
   rules := if k = 4 then s.rules ++ [(at_ : Int) + 1] else s.rules
   on := if k = 1 then s.on ++ [-1] else s.on
   miss := s.miss
   things := s.things ++ [⟨x.name, k, cntN s k, end_⟩] }
def J25 (x : RowN) (s : StN) : Int :=
 if J0j x.kind = 0 then 0 else if (J30 s.things x.name).isSome = true then 31 else if (cntN s (J0j x.kind) : Int) = J3g (J0j x.kind) then 3 else 0
def J0W (at_ : Nat) (end_ : Int) (x : RowN) (s : StN) : StN := if J0j x.kind = 0 then s else addN at_ end_ x s
def J1v (at_ : Nat) (x : RowN) (s : StN) : Int :=
 if J1O x.kind = 0 then 0 else match J30 s.things x.name with
  | none => 32
  | some t => if t.known > at_ then 32 else if t.kind ≠ J1O x.kind then 33 else 0
def J0D (at_ : Nat) (x : RowN) (s : StN) : StN :=
 if J1O x.kind = 0 then s else match J30 s.things x.name with
  | none => s
  | some t => { s with rows := setN s.rows at_ t.num }
def evE (x : RowN) (s : StN) : Int :=
 if J0E x.kind = false then 0 else if x.kind = 10 then (if s.miss ≥ 0 then 31 else 0) else match s.on[x.n.toNat]? with
  | some v => if v ≥ 0 then 31 else 0
  | none => 0
def evS (at_ : Nat) (x : RowN) (s : StN) : StN :=
 if J0E x.kind = false then s else if x.kind = 10 then { s with miss := (at_ : Int) + 1 } else { s with on := s.on.set x.n.toNat ((at_ : Int) + 1) }
def J3S (l : List (ByteArray × Bool)) : List Value := l.flatMap fun q => [.string q.1, .bool q.2]
def strs (l : List ByteArray) : List Value := l.map (.string ·)
def entT (t : ThN) : Value × Value := (.string t.name, .agg #[iv t.kind, iv t.num, iv t.known])
theorem J2J : ∀ l, (J3S l).length = l.length * 2
 | [] => rfl
 | q :: l => by
  have := J2J l
  simp only [J3S, List.flatMap_cons, List.length_append, List.length_cons, List.length_nil] at *
  omega
theorem J5A : ∀ l, (J3S l).all one = true
 | [] => rfl
 | q :: l => by
  have := J5A l
  simp only [J3S, List.flatMap_cons, List.all_append] at *
  rw [this]
  rfl
theorem J6e (l : List ByteArray) : (strs l).all one = true := by simp [strs, one]
theorem J4W (l : List ByteArray) : (strs l).length = l.length := by simp [strs]
theorem J0N : ∀ l : List RowN, (l.flatMap J0e).length = l.length * 5
 | [] => rfl
 | r :: l => by
  have := J0N l
  rw [List.flatMap_cons, List.length_append, this]
  simp only [J0e, List.length_cons, List.length_nil]
  omega
theorem J3k : ∀ (l : List RowN) (k : Nat), (l.flatMap J0e).drop (k * 5) = (l.drop k).flatMap J0e
 | l, 0 => by simp
 | [], k + 1 => by simp
 | r :: l, k + 1 => by
  rw [List.flatMap_cons, List.drop_succ_cons, ← J3k l k, show (k + 1) * 5 = 5 + k * 5 by omega, ← List.drop_drop]
  rfl
theorem J2Y {l : List RowN} {k : Nat} {r : RowN} (h : l[k]? = some r) : ((l.flatMap J0e).drop (k * 5)).take 5 = J0e r := by
 obtain ⟨hl, rfl⟩ := List.getElem?_eq_some_iff.1 h
 rw [J3k, List.drop_eq_getElem_cons hl, List.flatMap_cons]
 rfl
theorem J6F {h : SHeap} {r : Nat} {l : List RowN} {c : Nat} (hg : h.get r = .row (l.flatMap J0e) 46 true false) (hr : r < h.next) : J0l h (.slice (some ⟨r, 0, none⟩) l.length c) l :=
 ⟨_, _, rfl, .inr ⟨r, 0, _, _, _, _, rfl, hg, hr, fun k x hx => by rw [Nat.zero_add]; exact J2Y hx⟩⟩
theorem J3N {l : List RowN} {k : Nat} {x : RowN} {n : Int} (hx : l[k]? = some x) : (l.flatMap J0e).set (k * 5 + 3) (iv n) = (setN l k n).flatMap J0e := by
 unfold setN
 rw [hx]
 obtain ⟨hl, rfl⟩ := List.getElem?_eq_some_iff.1 hx
 simp only
 clear hx
 induction l generalizing k with
 | nil => simp at hl
 | cons a l ih =>
  cases k with
  | zero => rfl
  | succ k =>
   simp only [List.length_cons, Nat.add_lt_add_iff_right] at hl
   have := ih hl
   rw [List.flatMap_cons, List.set_cons_succ, List.flatMap_cons, List.getElem_cons_succ, ← this]
   rw [List.set_append_right _ _ (by simp [J0e]; omega)]
   congr 2
   simp only [J0e, List.length_cons, List.length_nil]
   omega
theorem J4N {l : List RowN} {k : Nat} {n : Int} : (setN l k n).length = l.length := by
 unfold setN
 split
 ·simp
 ·rfl
def SlAt (h : SHeap) (lo : Nat) (tag : Nat → Nat) (j : Nat) (v : Value) (n : Nat) (cs : List Value) (ty : TypeId) : Prop :=
 (n = 0 ∧ cs = [] ∧ v = .slice none 0 0) ∨ ∃ id ex, v = .slice (some ⟨id, 0, none⟩) n unk ∧ h.get id = .row (cs ++ ex) ty true false ∧ lo ≤ id ∧ id < h.next ∧ tag id = j
theorem SlAt.mono {h h' : SHeap} {lo : Nat} {tag tag' : Nat → Nat} {j : Nat} {v : Value} {n : Nat} {cs : List Value} {ty : TypeId} (hs : SlAt h lo tag j v n cs ty) (hn : h.next ≤ h'.next) (ht : ∀ i, i < h.next → tag' i = tag i)
  (hg : ∀ i, lo ≤ i → i < h.next → tag i = j → h'.get i = h.get i) : SlAt h' lo tag' j v n cs ty := by
 rcases hs with h1 | ⟨id, ex, h1, h2, h3, h4, h5⟩
 ·exact .inl h1
 ·exact .inr ⟨id, ex, h1, by rw [hg id h3 h4 h5]; exact h2, h3, by omega, by rw [ht id h4]; exact h5⟩
theorem SlAt.mono' {h : SHeap} {lo : Nat} {tag tag' : Nat → Nat} {j : Nat} {v : Value} {n : Nat} {cs : List Value} {ty : TypeId} (hs : SlAt h lo tag j v n cs ty) (ht : ∀ i, i < h.next → tag' i = tag i ∨ tag i ≠ j) : SlAt h lo tag' j v n cs ty := by
 rcases hs with h1 | ⟨id, ex, h1, h2, h3, h4, h5⟩
 ·exact .inl h1
 ·refine .inr ⟨id, ex, h1, h2, h3, h4, ?_⟩
  rcases ht id h4 with h | h
  ·rw [h]; exact h5
  ·exact absurd h5 h
theorem J5j {h : SHeap} {lo : Nat} {tag : Nat → Nat} {j : Nat} {ty : TypeId} : SlAt h lo tag j (.slice none 0 0) 0 [] ty := .inl ⟨rfl, rfl, rfl⟩
theorem Jec {a b : List Value} (ha : a.all one = true) (hb : b.all one = true) : (a ++ b).all one = true := by rw [List.all_append, ha, hb]; rfl
theorem J3B {t et : TypeId} {w bb : Nat} {z : Value} (hu : Tryd.prog.underlying t = some (.slice et)) (hsz : szOf Tryd.prog et = some w) (hby : byOf Tryd.prog et = some bb) (hzo : J1w Tryd.prog et = some z) (hz : z.cells.size = w) (hw : 0 < w) (hbb : bb ≤ 1024)
  {lo : Nat} {h : SHeap} {tag : Nat → Nat} {j : Nat} {v : Value} {n : Nat} {cs xs : List Value} {c : Nat} (hs : SlAt h lo tag j v n cs et) (hcl : cs.length = n * w) (hco : cs.all one = true) (hxl : xs.length = c * w) (hxo : xs.all one = true) (hc : 0 < c) (hcb : c < 10000000) (hnb : n < 10000000)
  {src : Nat} {g ro : Bool} {sc : Nat} (hsrc : h.get src = .row xs et g ro) (hsl : src < h.next) (hfl : h.floor ≤ lo) (hts : ¬ (lo ≤ src ∧ tag src = j)) :
  ∃ v' h', J1o Tryd.prog h t v (.slice (some ⟨src, 0, none⟩) c sc) = some (v', h') ∧ (SlAt h' lo (fun i => if i = h.next then j else tag i) j v' (n + c) (cs ++ xs) et ∨ ¬ lo ≤ h.next) ∧ h'.floor = h.floor ∧ h'.next = h.next + 1 ∧ one v' = true ∧ v'.cells = #[v'] ∧ ∀ i, i < h.next → ¬ (lo ≤ i ∧ tag i = j) → h'.get i = h.get i := by
 have hsc : J16 h w c (.slice (some ⟨src, 0, none⟩) c sc) = some xs := by
  have hc0 : c ≠ 0 := by omega
  simp [J16, hsrc, cut, hc0, hxl]
  rw [List.take_of_length_le (by omega)]
 have hbz : ∀ m, m < 20000000 → m * bb ≤ 140737488355328 := fun m hm => by
  have h1 : m * bb ≤ m * 1024 := Nat.mul_le_mul_left m hbb
  omega
 rcases hs with ⟨rfl, rfl, rfl⟩ | ⟨id, ex, rfl, hg, hid, hidn, htid⟩
 ·refine ⟨.slice (some ⟨h.next, 0, none⟩) c unk, h.push (.row xs et true false), ?_, ?_, rfl, rfl, rfl, rfl, fun i hi _ => J06 hi⟩
  ·have hunk : (0 : Nat) ≠ unk := by unfold unk; omega
   have h0 : J16 h w 0 (.slice none 0 0) = some [] := by simp [J16]
   have e1 : ¬ (c ≤ 0) := by omega
   have e2 : c * bb ≤ 140737488355328 := hbz c (by omega)
   have e3 : c ≤ 140737488355328 := by omega
   simp only [J1o, hu, hsz, hby, hzo, hz, hsc, hxo, hunk, h0, hw, e1, e2, e3, decide_true, beq_self_eq_true, Bool.and_self, if_true, if_false, Nat.le_refl, Nat.zero_add, Nat.zero_mul, Nat.zero_le, List.nil_append]
  ·by_cases hl : lo ≤ h.next
   ·refine .inl (.inr ⟨h.next, [], by rw [Nat.zero_add], ?_, hl, by show h.next < h.next + 1; omega, by simp⟩)
    rw [J0h, List.append_nil, List.nil_append]
   ·exact .inr hl
 ·have e1 : (n + c) * bb ≤ 140737488355328 := hbz _ (by omega)
  have e2 : n + c ≤ 140737488355328 := by omega
  have e3 : h.floor ≤ id := by omega
  have e4 : n ≤ unk := by unfold unk; omega
  have e5 : c ≠ 0 := by omega
  have hcut : cut (cs ++ ex) 0 (n * w) = some cs := by
   simp only [cut, List.drop_zero]
   rw [List.take_append_of_le_length (by omega), List.take_of_length_le (by omega), if_pos hcl]
  refine ⟨.slice (some ⟨h.next, 0, none⟩) (n + c) unk, (h.put id .dead).push (.row (cs ++ xs) et true false), ?_, .inl (.inr ⟨h.next, [], rfl, ?_, by omega, by show h.next < h.next + 1; omega, by simp⟩), rfl, rfl, rfl, rfl, fun i hi hne => ?_⟩
  ·simp only [J1o, hu, hsz, hby, hzo, hz, hsc, hxo, e1, e2, e3, e4, hg, hcut, hco, decide_true, Bool.and_self, beq_self_eq_true, hw, if_true, e5, if_false]
  ·rw [List.append_nil]
   exact J0h
  ·rw [J06 (by exact hi), J05 (by omega) (fun e => hne (by subst e; exact ⟨hid, htid⟩))]
structure PolS (h : SHeap) (lo : Nat) (tag : Nat → Nat) (r n : Nat) (vq vv vt vu vo : Value) (s : StN) : Prop where
 rows : h.get r = .row (s.rows.flatMap J0e) 46 true false
 len : s.rows.length = n
 tr : tag r = 1
 lr : lo ≤ r ∧ r < h.next
 q : SlAt h lo tag 2 vq s.queues.length (J3S s.queues) 57
 v : SlAt h lo tag 3 vv s.vars.length (strs s.vars) 9
 t : SlAt h lo tag 4 vt s.tags.length (strs s.tags) 9
 u : SlAt h lo tag 5 vu s.rules.length (ints s.rules) 3
 o : SlAt h lo tag 6 vo s.on.length (ints s.on) 3
theorem PolS.mono {h h' : SHeap} {lo : Nat} {tag tag' : Nat → Nat} {r n : Nat} {vq vv vt vu vo : Value} {s : StN} (hp : PolS h lo tag r n vq vv vt vu vo s) (hn : h.next ≤ h'.next) (ht : ∀ i, i < h.next → tag' i = tag i)
  (hg : ∀ i, lo ≤ i → i < h.next → 1 ≤ tag i → tag i ≤ 6 → h'.get i = h.get i) : PolS h' lo tag' r n vq vv vt vu vo s where
 rows := by rw [hg r hp.lr.1 hp.lr.2 (by rw [hp.tr]; omega) (by rw [hp.tr]; omega)]; exact hp.rows
 len := hp.len
 tr := by rw [ht r hp.lr.2]; exact hp.tr
 lr := ⟨hp.lr.1, by have := hp.lr.2; omega⟩
 q := hp.q.mono hn ht fun i h1 h2 h3 => hg i h1 h2 (by omega) (by omega)
 v := hp.v.mono hn ht fun i h1 h2 h3 => hg i h1 h2 (by omega) (by omega)
 t := hp.t.mono hn ht fun i h1 h2 h3 => hg i h1 h2 (by omega) (by omega)
 u := hp.u.mono hn ht fun i h1 h2 h3 => hg i h1 h2 (by omega) (by omega)
 o := hp.o.mono hn ht fun i h1 h2 h3 => hg i h1 h2 (by omega) (by omega)
theorem PolS.at {h : SHeap} {lo : Nat} {tag : Nat → Nat} {r n : Nat} {vq vv vt vu vo : Value} {s : StN} (hp : PolS h lo tag r n vq vv vt vu vo s) : J0l h (.slice (some ⟨r, 0, none⟩) n unk) s.rows := by
 have := J6F (c := unk) hp.rows hp.lr.2
 rw [hp.len] at this
 exact this
theorem J5O : ∀ (l : List ThN) (x : ByteArray), J2y (.string x) (l.map entT) = some ((J30 l x).map fun t => .agg #[iv t.kind, iv t.num, iv t.known])
 | [], x => rfl
 | t :: l, x => by
  simp only [List.map_cons, J2y, entT, J4s, J30, List.find?_cons]
  cases hb : (x == t.name) with
  | true => rfl
  | false => exact J5O l x
theorem J8k : ∀ (l : List ThN) (x : ByteArray) (v : Value), J30 l x = none → J2h (.string x) v (l.map entT) = l.map entT ++ [(.string x, v)]
 | [], x, v, _ => rfl
 | t :: l, x, v, hf => by
  simp only [J30, List.find?_cons] at hf
  cases hb : (x == t.name) with
  | true => rw [hb] at hf; cases hf
  | false =>
   rw [hb] at hf
   have := J8k l x v hf
   simp only [List.map_cons, entT, J2h, J4s, hb, Option.some.injEq, Bool.false_eq_true, if_false, List.cons_append]
   rw [← this]
def J8i (es : List (Value × Value)) : Prop := ∀ p ∈ es, ∃ j : Int, p.1 = iv j
theorem J5T : ∀ (es : List (Value × Value)) (k k' : Int) (v : Value), J8i es → J2y (iv k) (J2h (iv k') v es) = if k = k' then some (some v) else J2y (iv k) es
 | [], k, k', v, _ => by
  simp only [J2h, J2y, J4s, if_true]
  by_cases hk : k = k'
  ·subst hk; simp
  ·have : (k == k') = false := by simpa using hk
   rw [this, if_neg hk]
 | (x, u) :: es, k, k', v, hi => by
  obtain ⟨j, hj⟩ := hi (x, u) (by simp)
  simp only at hj
  subst hj
  have ih := J5T es k k' v fun p hp => hi p (by simp [hp])
  simp only [J2h, J4s, if_true, Option.some.injEq, beq_iff_eq]
  by_cases hkj : k' = j
  ·subst hkj
   rw [if_pos rfl]
   simp only [J2y, J4s, if_true]
   by_cases hk : k = k'
   ·subst hk; simp
   ·have : (k == k') = false := by simpa using hk
    rw [this, if_neg hk]
  ·rw [if_neg hkj]
   simp only [J2y, J4s, if_true]
   cases hb : (k == j) with
   | true =>
    have : k = j := by simpa using hb
    subst this
    rw [if_neg (fun e => hkj e.symm)]
   | false => exact ih
theorem Jb0 : ∀ (es : List (Value × Value)) (k : Int) (v : Value), J8i es → J8i (J2h (iv k) v es)
 | [], k, v, _ => by intro p hp; simp [J2h] at hp; exact ⟨k, by rw [hp]⟩
 | (x, u) :: es, k, v, hi => by
  have ih := Jb0 es k v fun p hp => hi p (by simp [hp])
  intro p hp
  simp only [J2h] at hp
  split at hp
  ·simp only [List.mem_cons] at hp
   rcases hp with rfl | hp
   ·exact ⟨k, rfl⟩
   ·exact hi p (by simp [hp])
  ·simp only [List.mem_cons] at hp
   rcases hp with rfl | hp
   ·exact hi _ (by simp)
   ·exact ih p hp
def Many (es : List (Value × Value)) (s : StN) : Prop := J8i es ∧ ∀ k : Int, 1 ≤ k → k ≤ 4 → J2y (iv k) es = some (if cntN s k = 0 then none else some (iv (cntN s k : Int)))
theorem sz22 : szOf Tryd.prog 22 = some 1 := by kernel_rfl
theorem sz26 : szOf Tryd.prog 26 = some 1 := by kernel_rfl
theorem sz27 : szOf Tryd.prog 27 = some 1 := by kernel_rfl
theorem sz28 : szOf Tryd.prog 28 = some 1 := by kernel_rfl
theorem sz30 : szOf Tryd.prog 30 = some 8 := by kernel_rfl
theorem sz57 : szOf Tryd.prog 57 = some 2 := by kernel_rfl
theorem sz79 : szOf Tryd.prog 79 = some 1 := by kernel_rfl
theorem sz80 : szOf Tryd.prog 80 = some 1 := by kernel_rfl
theorem sz81 : szOf Tryd.prog 81 = some 1 := by kernel_rfl
theorem sz83 : szOf Tryd.prog 83 = some 10 := by kernel_rfl
theorem J4m : szOf Tryd.prog 114 = some 2 := by kernel_rfl
theorem Jhm : szOf Tryd.prog 116 = some 3 := by kernel_rfl
theorem Jjk : J2X Tryd.prog 22 = some false := by kernel_rfl
theorem JjI : J2X Tryd.prog 26 = some false := by kernel_rfl
theorem Jjd : J2X Tryd.prog 27 = some false := by kernel_rfl
theorem Jjs : J2X Tryd.prog 28 = some false := by kernel_rfl
theorem JjA : J2X Tryd.prog 30 = some true := by kernel_rfl
theorem Jjc : J2X Tryd.prog 79 = some false := by kernel_rfl
theorem Jjn : J2X Tryd.prog 80 = some false := by kernel_rfl
theorem Jjf : J2X Tryd.prog 81 = some false := by kernel_rfl
theorem Jhs : J2X Tryd.prog 114 = some true := by kernel_rfl
theorem Jht : J2X Tryd.prog 116 = some true := by kernel_rfl
theorem by9 : byOf Tryd.prog 9 = some 16 := by kernel_rfl
theorem by46 : byOf Tryd.prog 46 = some 48 := by kernel_rfl
theorem by57 : byOf Tryd.prog 57 = some 24 := by kernel_rfl
theorem Jdg : J1w Tryd.prog 9 = some (.string ByteArray.empty) := by kernel_rfl
theorem J9V : J1w Tryd.prog 57 = some (.agg #[.string ByteArray.empty, .bool false]) := by kernel_rfl
theorem J1j : J1w Tryd.prog 116 = some (.agg #[iv 0, iv 0, iv 0]) := by kernel_rfl
theorem Jgr : J1w Tryd.prog 114 = some (.agg #[iv 0, iv 0]) := by kernel_rfl
theorem Jir : J1w Tryd.prog 30 = some (.agg #[.string ByteArray.empty, .slice none 0 0, .slice none 0 0, .slice none 0 0, .slice none 0 0, .slice none 0 0, .slice none 0 0, iv 0]) := by kernel_rfl
section
variable {h : SHeap} {id off : Nat}
theorem J0F : J2x Tryd.prog h 22 (.pointer (some ⟨id, off, none⟩)) = ld1 off (h.get id) := J41 Jjk
theorem J0S : J2x Tryd.prog h 26 (.pointer (some ⟨id, off, none⟩)) = ld1 off (h.get id) := J41 JjI
theorem J0Y : J2x Tryd.prog h 27 (.pointer (some ⟨id, off, none⟩)) = ld1 off (h.get id) := J41 Jjd
theorem J0n : J2x Tryd.prog h 28 (.pointer (some ⟨id, off, none⟩)) = ld1 off (h.get id) := J41 Jjs
theorem J1W : J2x Tryd.prog h 79 (.pointer (some ⟨id, off, none⟩)) = ld1 off (h.get id) := J41 Jjc
theorem J1k : J2x Tryd.prog h 80 (.pointer (some ⟨id, off, none⟩)) = ld1 off (h.get id) := J41 Jjn
theorem Jdh : J2x Tryd.prog h 81 (.pointer (some ⟨id, off, none⟩)) = ld1 off (h.get id) := J41 Jjf
theorem J1b : J2x Tryd.prog h 30 (.pointer (some ⟨id, off, none⟩)) = ldN 8 off (h.get id) := J5S JjA sz30
theorem Jax : J2x Tryd.prog h 114 (.pointer (some ⟨id, off, none⟩)) = ldN 2 off (h.get id) := J5S Jhs J4m
theorem JiP : J2x Tryd.prog h 116 (.pointer (some ⟨id, off, none⟩)) = ldN 3 off (h.get id) := J5S Jht Jhm
theorem J0g : J08 Tryd.prog 83 (.pointer (some ⟨id, off, none⟩)) 0 = some (.pointer (some ⟨id, off, none⟩)) := by simp [J08, Tryd.underlying83, sz3, sz4, sz9, sz22, sz26, sz27, sz28, sz30, sz80, sz81, J4m, J0q]
theorem J0Z : J08 Tryd.prog 83 (.pointer (some ⟨id, off, none⟩)) 1 = some (.pointer (some ⟨id, off + 8, none⟩)) := by simp [J08, Tryd.underlying83, sz3, sz4, sz9, sz22, sz26, sz27, sz28, sz30, sz80, sz81, J4m, J0q]
theorem JaQ : J08 Tryd.prog 83 (.pointer (some ⟨id, off, none⟩)) 2 = some (.pointer (some ⟨id, off + 9, none⟩)) := by simp [J08, Tryd.underlying83, sz3, sz4, sz9, sz22, sz26, sz27, sz28, sz30, sz80, sz81, J4m, J0q]
theorem J5g : J08 Tryd.prog 30 (.pointer (some ⟨id, off, none⟩)) 0 = some (.pointer (some ⟨id, off, none⟩)) := by simp [J08, Tryd.underlying30, sz3, sz4, sz9, sz22, sz26, sz27, sz28, sz30, sz80, sz81, J4m, J0q]
theorem J0y : J08 Tryd.prog 30 (.pointer (some ⟨id, off, none⟩)) 1 = some (.pointer (some ⟨id, off + 1, none⟩)) := by simp [J08, Tryd.underlying30, sz3, sz4, sz9, sz22, sz26, sz27, sz28, sz30, sz80, sz81, J4m, J0q]
theorem J0B : J08 Tryd.prog 30 (.pointer (some ⟨id, off, none⟩)) 2 = some (.pointer (some ⟨id, off + 2, none⟩)) := by simp [J08, Tryd.underlying30, sz3, sz4, sz9, sz22, sz26, sz27, sz28, sz30, sz80, sz81, J4m, J0q]
theorem J1A : J08 Tryd.prog 30 (.pointer (some ⟨id, off, none⟩)) 3 = some (.pointer (some ⟨id, off + 3, none⟩)) := by simp [J08, Tryd.underlying30, sz3, sz4, sz9, sz22, sz26, sz27, sz28, sz30, sz80, sz81, J4m, J0q]
theorem J1B : J08 Tryd.prog 30 (.pointer (some ⟨id, off, none⟩)) 4 = some (.pointer (some ⟨id, off + 4, none⟩)) := by simp [J08, Tryd.underlying30, sz3, sz4, sz9, sz22, sz26, sz27, sz28, sz30, sz80, sz81, J4m, J0q]
theorem J36 : J08 Tryd.prog 30 (.pointer (some ⟨id, off, none⟩)) 5 = some (.pointer (some ⟨id, off + 5, none⟩)) := by simp [J08, Tryd.underlying30, sz3, sz4, sz9, sz22, sz26, sz27, sz28, sz30, sz80, sz81, J4m, J0q]
theorem J1T : J08 Tryd.prog 30 (.pointer (some ⟨id, off, none⟩)) 6 = some (.pointer (some ⟨id, off + 6, none⟩)) := by simp [J08, Tryd.underlying30, sz3, sz4, sz9, sz22, sz26, sz27, sz28, sz30, sz80, sz81, J4m, J0q]
theorem J38 : J08 Tryd.prog 30 (.pointer (some ⟨id, off, none⟩)) 7 = some (.pointer (some ⟨id, off + 7, none⟩)) := by simp [J08, Tryd.underlying30, sz3, sz4, sz9, sz22, sz26, sz27, sz28, sz30, sz80, sz81, J4m, J0q]
theorem Jac : J08 Tryd.prog 116 (.pointer (some ⟨id, off, none⟩)) 0 = some (.pointer (some ⟨id, off, none⟩)) := by simp [J08, Tryd.underlying116, sz3, sz4, sz9, sz22, sz26, sz27, sz28, sz30, sz80, sz81, J4m, J0q]
theorem J7R : J08 Tryd.prog 116 (.pointer (some ⟨id, off, none⟩)) 1 = some (.pointer (some ⟨id, off + 2, none⟩)) := by simp [J08, Tryd.underlying116, sz3, sz4, sz9, sz22, sz26, sz27, sz28, sz30, sz80, sz81, J4m, J0q]
theorem JiF : J08 Tryd.prog 114 (.pointer (some ⟨id, off, none⟩)) 0 = some (.pointer (some ⟨id, off, none⟩)) := by simp [J08, Tryd.underlying114, sz3, sz4, sz9, sz22, sz26, sz27, sz28, sz30, sz80, sz81, J4m, J0q]
theorem Jaq : J08 Tryd.prog 114 (.pointer (some ⟨id, off, none⟩)) 1 = some (.pointer (some ⟨id, off + 1, none⟩)) := by simp [J08, Tryd.underlying114, sz3, sz4, sz9, sz22, sz26, sz27, sz28, sz30, sz80, sz81, J4m, J0q]
theorem JiV : J08 Tryd.prog 57 (.pointer (some ⟨id, off, none⟩)) 0 = some (.pointer (some ⟨id, off, none⟩)) := by simp [J08, Tryd.underlying57, sz3, sz4, sz9, sz22, sz26, sz27, sz28, sz30, sz80, sz81, J4m, J0q]
theorem JiN : J08 Tryd.prog 57 (.pointer (some ⟨id, off, none⟩)) 1 = some (.pointer (some ⟨id, off + 1, none⟩)) := by simp [J08, Tryd.underlying57, sz3, sz4, sz9, sz22, sz26, sz27, sz28, sz30, sz80, sz81, J4m, J0q]
theorem J4z {n c i : Nat} (hi : i < n) : J0R Tryd.prog 22 (.slice (some ⟨id, 0, none⟩) n c) (iv (i : Int)) = some (.pointer (some ⟨id, i * 5, none⟩)) := by
 simp only [J0R, Tryd.underlying22, sz46, J0q]
 rw [if_pos (by omega)]
 simp
theorem JjX {a : Option Addr} {n c : Nat} : lenS Tryd.prog h 26 (.slice a n c) = some (iv (n : Int)) := by simp [lenS, Tryd.underlying26]
theorem JjW {a : Option Addr} {n c : Nat} : lenS Tryd.prog h 27 (.slice a n c) = some (iv (n : Int)) := by simp [lenS, Tryd.underlying27]
theorem Jk1 {a : Option Addr} {n c : Nat} : lenS Tryd.prog h 28 (.slice a n c) = some (iv (n : Int)) := by simp [lenS, Tryd.underlying28]
theorem stc {t : TypeId} {v : Value} {cs : List Value} {ty : TypeId} {g : Bool} (ht : szOf Tryd.prog t = some 1) (hv : v.cells = #[v]) (ho : one v = true) (hg : h.get id = .row cs ty g false) (hi : off < cs.length) (hf : h.floor ≤ id) : J0K Tryd.prog h t (.pointer (some ⟨id, off, none⟩)) v = some (h.put id (.row (cs.set off v) ty g false)) := by
 have hsz : (some 1 : Option Nat) = some (#[v] : Array Value).size := rfl
 simp only [J0K, hv, ht, J1q, hg]
 rw [if_pos hsz, if_pos (by simp [ho]; omega), J9J hi]
end
theorem Jgp : J2Q Tryd.prog (match Tryd.prog.underlying 57 with | some (.struct fs) => fs.toList | _ => []) = some [(0, 1), (1, 1)] := by kernel_rfl
theorem JfX : J2Q Tryd.prog (match Tryd.prog.underlying 114 with | some (.struct fs) => fs.toList | _ => []) = some [(0, 1), (1, 1)] := by kernel_rfl
theorem JgE : J2Q Tryd.prog (match Tryd.prog.underlying 116 with | some (.struct fs) => fs.toList | _ => []) = some [(0, 2), (2, 1)] := by kernel_rfl
theorem Ji6 {a b : Value} : flat (.agg #[a, b]) = (J1i a && (J1i b && true)) := by simp [flat]
theorem Jii {a b c : Value} : flat (.agg #[a, b, c]) = (J1i a && (J1i b && (J1i c && true))) := by simp [flat, Bool.and_assoc]
theorem J2q {nm : ByteArray} {g : Bool} : J1P Tryd.prog 57 [(0, .string nm), (1, .bool g)] = some (.agg #[.string nm, .bool g]) := by
 have h := Jgp
 rw [Tryd.underlying57] at h
 simp only at h
 simp only [J1P, J9V, Ji6, Jig, Jh8, Bool.and_self, if_true, Tryd.underlying57, h]
 rfl
theorem J3i {a b : Int} : J1P Tryd.prog 114 [(0, iv a), (1, iv b)] = some (.agg #[iv a, iv b]) := by
 have h := JfX
 rw [Tryd.underlying114] at h
 simp only at h
 simp only [J1P, Jgr, Ji6, J51, Bool.and_self, if_true, Tryd.underlying114, h]
 rfl
theorem J3R {a b c : Int} : J1P Tryd.prog 116 [(0, .agg #[iv a, iv b]), (1, iv c)] = some (.agg #[iv a, iv b, iv c]) := by
 have h := JgE
 rw [Tryd.underlying116] at h
 simp only at h
 simp only [J1P, J1j, Jii, J51, Bool.and_self, if_true, Tryd.underlying116, h]
 rfl
section
variable {h : SHeap}
theorem bs26 {nm : ByteArray} {g : Bool} : J0Q Tryd.prog h 26 1 [(0, .agg #[.string nm, .bool g])] = some (.slice (some ⟨h.next, 0, none⟩) 1 1, h.push (.row [.string nm, .bool g] 57 false false)) := by
 simp [J0Q, Tryd.underlying26, sz57, J9V, flat, J1i, J0G, J5k, J3e, Go.Sx.lay]
theorem bs27 {nm : ByteArray} : J0Q Tryd.prog h 27 1 [(0, .string nm)] = some (.slice (some ⟨h.next, 0, none⟩) 1 1, h.push (.row [.string nm] 9 false false)) := by
 have hc : ∀ x, (Value.string x).cells = #[.string x] := fun _ => rfl
 simp [J0Q, Tryd.underlying27, sz9, Jdg, flat, J1i, hc, J5k, J3e, Go.Sx.lay]
theorem bs28 {x : Int} : J0Q Tryd.prog h 28 1 [(0, iv x)] = some (.slice (some ⟨h.next, 0, none⟩) 1 1, h.push (.row [iv x] 3 false false)) := by
 have hc : ∀ x : Int, (iv x).cells = #[iv x] := fun _ => rfl
 simp [J0Q, Tryd.underlying28, sz3, J8P, flat, J1i, hc, J5k, J3e, Go.Sx.lay]
theorem J7x {k : Nat} {l : List ThN} {x : ByteArray} (hg : h.get k = .map (l.map entT)) : J4D Tryd.prog h 80 (.map (some k)) (.string x) true = some (match J30 l x with
  | some t => .tuple #[.agg #[iv t.kind, iv t.num, iv t.known], .bool true]
  | none => .tuple #[.agg #[iv 0, iv 0, iv 0], .bool false]) := by
 have hk : J61 Tryd.prog 9 (.string x) = true := by simp [J61, Tryd.underlying9]
 simp only [J4D, Tryd.underlying80, hk, hg, J5O, if_true]
 cases J30 l x with
 | some t => rfl
 | none =>
  simp only [Option.map_none, J1j, Jii, J51, Bool.and_self, if_true]
theorem Jdy {k : Nat} {l : List ThN} {x : ByteArray} {a b c : Int} (hg : h.get k = .map (l.map entT)) (hf : J30 l x = none) (hfl : h.floor ≤ k) : J3h Tryd.prog h 80 (.map (some k)) (.string x) (.agg #[iv a, iv b, iv c]) = some (h.put k (.map ((l ++ [(⟨x, a, b, c⟩ : ThN)]).map entT))) := by
 have hk : J61 Tryd.prog 9 (.string x) = true := by simp [J61, Tryd.underlying9]
 simp only [J3h, Tryd.underlying80, hk, hg, J5O, decide_eq_true hfl, Bool.and_self, if_true, J8k _ _ _ hf, List.map_append, List.map_cons, List.map_nil, entT]
theorem JdK {c : Nat} {es : List (Value × Value)} {s : StN} {k : Int} (hg : h.get c = .map es) (hm : Many es s) (h1 : 1 ≤ k) (h4 : k ≤ 4) : J4D Tryd.prog h 81 (.map (some c)) (iv k) false = some (iv (cntN s k : Int)) := by
 have hk : J61 Tryd.prog 3 (iv k) = true := by simp [J61, Tryd.underlying3]
 simp only [J4D, Tryd.underlying81, hk, hg, hm.2 k h1 h4, if_true]
 by_cases h0 : cntN s k = 0
 ·rw [if_pos h0, h0]
  simp only [J8P, Jad, if_true, Bool.false_eq_true, if_false]
  rfl
 ·rw [if_neg h0]
  simp only [Bool.false_eq_true, if_false]
theorem Jfr {c : Nat} {es : List (Value × Value)} {s : StN} {k : Int} {v : Value} (hg : h.get c = .map es) (hm : Many es s) (h1 : 1 ≤ k) (h4 : k ≤ 4) (hfl : h.floor ≤ c) : J3h Tryd.prog h 81 (.map (some c)) (iv k) v = some (h.put c (.map (J2h (iv k) v es))) := by
 have hk : J61 Tryd.prog 3 (iv k) = true := by simp [J61, Tryd.underlying3]
 simp only [J3h, Tryd.underlying81, hk, hg, hm.2 k h1 h4, decide_eq_true hfl, Bool.and_self, if_true]
end
structure MkP (h : SHeap) (lo m k c e r n : Nat) (nm : ByteArray) (E : List Int) (tag : Nat → Nat) (vq vv vt vu vo : Value) (es : List (Value × Value)) (s : StN) : Prop where
 cell : h.get m = .row [.string nm, .slice (some ⟨r, 0, none⟩) n unk, vq, vv, vt, vu, vo, iv s.miss, .map (some k), .map (some c)] 83 false false
 pol : PolS h lo tag r n vq vv vt vu vo s
 known : h.get k = .map (s.things.map entT)
 many : h.get c = .map es
 ends : h.get e = .row (ints E) 3 false false
 tm : tag m = 0
 tk : tag k = 8
 tc : tag c = 9
 te : tag e = 10
 lm : lo ≤ m ∧ m < h.next
 lk : lo ≤ k ∧ k < h.next
 lc : lo ≤ c ∧ c < h.next
 le : lo ≤ e ∧ e < h.next
 fl : h.floor ≤ lo
section
variable {h h' : SHeap} {lo m k c e r n : Nat} {nm : ByteArray} {E : List Int} {tag tag' : Nat → Nat} {vq vv vt vu vo : Value} {es : List (Value × Value)} {s s' : StN}
theorem J8l {a i : Nat} (hl : lo ≤ a) (ht : tag a ≤ 10) (hi : i < lo ∨ (i < h.next ∧ 11 ≤ tag i)) : a ≠ i := by
 rintro rfl
 omega
theorem J1Y {a b : Nat} (h : tag a ≠ tag b) : a ≠ b := fun e => h (by rw [e])
theorem MkP.mono (hp : MkP h lo m k c e r n nm E tag vq vv vt vu vo es s) (hn : h.next ≤ h'.next) (hf : h'.floor = h.floor) (ht : ∀ i, i < h.next → tag' i = tag i)
  (hg : ∀ i, lo ≤ i → i < h.next → h'.get i = h.get i) : MkP h' lo m k c e r n nm E tag' vq vv vt vu vo es s where
 cell := by rw [hg m hp.lm.1 hp.lm.2]; exact hp.cell
 pol := hp.pol.mono hn ht fun i h1 h2 _ _ => hg i h1 h2
 known := by rw [hg k hp.lk.1 hp.lk.2]; exact hp.known
 many := by rw [hg c hp.lc.1 hp.lc.2]; exact hp.many
 ends := by rw [hg e hp.le.1 hp.le.2]; exact hp.ends
 tm := by rw [ht m hp.lm.2]; exact hp.tm
 tk := by rw [ht k hp.lk.2]; exact hp.tk
 tc := by rw [ht c hp.lc.2]; exact hp.tc
 te := by rw [ht e hp.le.2]; exact hp.te
 lm := ⟨hp.lm.1, by have := hp.lm.2; omega⟩
 lk := ⟨hp.lk.1, by have := hp.lk.2; omega⟩
 lc := ⟨hp.lc.1, by have := hp.lc.2; omega⟩
 le := ⟨hp.le.1, by have := hp.le.2; omega⟩
 fl := by rw [hf]; exact hp.fl
theorem MkP.push (hp : MkP h lo m k c e r n nm E tag vq vv vt vu vo es s) (o : SObj) : MkP (h.push o) lo m k c e r n nm E tag vq vv vt vu vo es s :=
 hp.mono (by show h.next ≤ h.next + 1; omega) rfl (fun _ _ => rfl) fun i _ hi => J06 hi
theorem MkP.putNew (hp : MkP h lo m k c e r n nm E tag vq vv vt vu vo es s) {o o' : SObj} : MkP ((h.push o').put h.next o) lo m k c e r n nm E tag vq vv vt vu vo es s :=
 hp.mono (by show h.next ≤ h.next + 1; omega) rfl (fun _ _ => rfl) fun i _ hi => by rw [J05 (by show h.next < h.next + 1; omega) (by omega), J06 hi]
theorem MkP.putC (hp : MkP h lo m k c e r n nm E tag vq vv vt vu vo es s) (es' : List (Value × Value)) : MkP (h.put c (.map es')) lo m k c e r n nm E tag vq vv vt vu vo es' s where
 cell := by rw [J05 hp.lc.2 (J1Y (tag := tag) (by rw [hp.tm, hp.tc]; decide))]; exact hp.cell
 pol := hp.pol.mono (Nat.le_refl _) (fun _ _ => rfl) fun i _ _ h1 h2 => J05 hp.lc.2 (J1Y (tag := tag) (by rw [hp.tc]; omega))
 known := by rw [J05 hp.lc.2 (J1Y (tag := tag) (by rw [hp.tk, hp.tc]; decide))]; exact hp.known
 many := J0b rfl hp.lc.2
 ends := by rw [J05 hp.lc.2 (J1Y (tag := tag) (by rw [hp.te, hp.tc]; decide))]; exact hp.ends
 tm := hp.tm
 tk := hp.tk
 tc := hp.tc
 te := hp.te
 lm := hp.lm
 lk := hp.lk
 lc := hp.lc
 le := hp.le
 fl := hp.fl
theorem MkP.putK (hp : MkP h lo m k c e r n nm E tag vq vv vt vu vo es s) (l : List ThN) : MkP (h.put k (.map (l.map entT))) lo m k c e r n nm E tag vq vv vt vu vo es { s with things := l } where
 cell := by rw [J05 hp.lk.2 (J1Y (tag := tag) (by rw [hp.tm, hp.tk]; decide))]; exact hp.cell
 pol := by
  have := hp.pol.mono (h' := h.put k (.map (l.map entT))) (Nat.le_refl _) (fun _ _ => rfl) fun i _ _ h1 h2 => J05 hp.lk.2 (J1Y (tag := tag) (by rw [hp.tk]; omega))
  exact ⟨this.rows, this.len, this.tr, this.lr, this.q, this.v, this.t, this.u, this.o⟩
 known := J0b rfl hp.lk.2
 many := by rw [J05 hp.lk.2 (J1Y (tag := tag) (by rw [hp.tc, hp.tk]; decide))]; exact hp.many
 ends := by rw [J05 hp.lk.2 (J1Y (tag := tag) (by rw [hp.te, hp.tk]; decide))]; exact hp.ends
 tm := hp.tm
 tk := hp.tk
 tc := hp.tc
 te := hp.te
 lm := hp.lm
 lk := hp.lk
 lc := hp.lc
 le := hp.le
 fl := hp.fl
theorem MkP.pol' (hp : MkP h lo m k c e r n nm E tag vq vv vt vu vo es s) {vq' vv' vt' vu' vo' : Value} (hn : h.next ≤ h'.next) (hf : h'.floor = h.floor) (ht : ∀ i, i < h.next → tag' i = tag i)
  (hg : ∀ i, lo ≤ i → i < h.next → 8 ≤ tag i → h'.get i = h.get i) (hc : h'.get m = .row [.string nm, .slice (some ⟨r, 0, none⟩) n unk, vq', vv', vt', vu', vo', iv s'.miss, .map (some k), .map (some c)] 83 false false)
  (hp' : PolS h' lo tag' r n vq' vv' vt' vu' vo' s') (hth : s'.things = s.things) : MkP h' lo m k c e r n nm E tag' vq' vv' vt' vu' vo' es s' where
 cell := hc
 pol := hp'
 known := by rw [hg k hp.lk.1 hp.lk.2 (by rw [hp.tk]; omega), hth]; exact hp.known
 many := by rw [hg c hp.lc.1 hp.lc.2 (by rw [hp.tc]; omega)]; exact hp.many
 ends := by rw [hg e hp.le.1 hp.le.2 (by rw [hp.te]; omega)]; exact hp.ends
 tm := by rw [ht m hp.lm.2]; exact hp.tm
 tk := by rw [ht k hp.lk.2]; exact hp.tk
 tc := by rw [ht c hp.lc.2]; exact hp.tc
 te := by rw [ht e hp.le.2]; exact hp.te
 lm := ⟨hp.lm.1, by have := hp.lm.2; omega⟩
 lk := ⟨hp.lk.1, by have := hp.lk.2; omega⟩
 lc := ⟨hp.lc.1, by have := hp.lc.2; omega⟩
 le := ⟨hp.le.1, by have := hp.le.2; omega⟩
 fl := by rw [hf]; exact hp.fl
theorem PolS.putR (hp : PolS h lo tag r n vq vv vt vu vo s) {l : List RowN} (hl : l.length = s.rows.length) : PolS (h.put r (.row (l.flatMap J0e) 46 true false)) lo tag r n vq vv vt vu vo { s with rows := l } :=
 have hg : ∀ i j, 2 ≤ j → tag i = j → (h.put r (.row (l.flatMap J0e) 46 true false)).get i = h.get i := fun i j hj hi => J05 hp.lr.2 (J1Y (tag := tag) (by rw [hp.tr]; omega))
 ⟨J0b rfl hp.lr.2, hl.trans hp.len, hp.tr, hp.lr, hp.q.mono (Nat.le_refl _) (fun _ _ => rfl) fun i _ _ h3 => hg i 2 (by omega) h3, hp.v.mono (Nat.le_refl _) (fun _ _ => rfl) fun i _ _ h3 => hg i 3 (by omega) h3, hp.t.mono (Nat.le_refl _) (fun _ _ => rfl) fun i _ _ h3 => hg i 4 (by omega) h3, hp.u.mono (Nat.le_refl _) (fun _ _ => rfl) fun i _ _ h3 => hg i 5 (by omega) h3, hp.o.mono (Nat.le_refl _) (fun _ _ => rfl) fun i _ _ h3 => hg i 6 (by omega) h3⟩
theorem MkP.putR (hp : MkP h lo m k c e r n nm E tag vq vv vt vu vo es s) {l : List RowN} (hl : l.length = s.rows.length) : MkP (h.put r (.row (l.flatMap J0e) 46 true false)) lo m k c e r n nm E tag vq vv vt vu vo es { s with rows := l } :=
 hp.pol' (Nat.le_refl _) rfl (fun _ _ => rfl) (fun i _ _ h1 => J05 hp.pol.lr.2 (J1Y (tag := tag) (by rw [hp.pol.tr]; omega))) (by rw [J05 hp.pol.lr.2 (J1Y (tag := tag) (by rw [hp.pol.tr, hp.tm]; decide))]; exact hp.cell) (hp.pol.putR hl) rfl
theorem MkP.c1 (hp : MkP h lo m k c e r n nm E tag vq vv vt vu vo es s) : ld1 1 (h.get m) = some (.slice (some ⟨r, 0, none⟩) n unk) := by rw [hp.cell]; rfl
theorem MkP.c2 (hp : MkP h lo m k c e r n nm E tag vq vv vt vu vo es s) : ld1 2 (h.get m) = some vq := by rw [hp.cell]; rfl
theorem MkP.c3 (hp : MkP h lo m k c e r n nm E tag vq vv vt vu vo es s) : ld1 3 (h.get m) = some vv := by rw [hp.cell]; rfl
theorem MkP.c4 (hp : MkP h lo m k c e r n nm E tag vq vv vt vu vo es s) : ld1 4 (h.get m) = some vt := by rw [hp.cell]; rfl
theorem MkP.c5 (hp : MkP h lo m k c e r n nm E tag vq vv vt vu vo es s) : ld1 5 (h.get m) = some vu := by rw [hp.cell]; rfl
theorem MkP.c6 (hp : MkP h lo m k c e r n nm E tag vq vv vt vu vo es s) : ld1 6 (h.get m) = some vo := by rw [hp.cell]; rfl
theorem MkP.c7 (hp : MkP h lo m k c e r n nm E tag vq vv vt vu vo es s) : ld1 7 (h.get m) = some (iv s.miss) := by rw [hp.cell]; rfl
theorem MkP.c8 (hp : MkP h lo m k c e r n nm E tag vq vv vt vu vo es s) : ld1 8 (h.get m) = some (.map (some k)) := by rw [hp.cell]; rfl
theorem MkP.c9 (hp : MkP h lo m k c e r n nm E tag vq vv vt vu vo es s) : ld1 9 (h.get m) = some (.map (some c)) := by rw [hp.cell]; rfl
theorem MkP.row (hp : MkP h lo m k c e r n nm E tag vq vv vt vu vo es s) {at_ : Nat} {x : RowN} (hx : s.rows[at_]? = some x) : at_ < n ∧ ld1 (at_ * 5) (h.get r) = some (iv x.kind) ∧ ld1 (at_ * 5 + 1) (h.get r) = some (.string x.name) ∧ ld1 (at_ * 5 + 2) (h.get r) = some (iv x.ends) ∧ ld1 (at_ * 5 + 3) (h.get r) = some (iv x.n) ∧ ld1 (at_ * 5 + 4) (h.get r) = some (iv x.kids) ∧
  ldN 5 (at_ * 5) (h.get r) = some (.agg #[iv x.kind, .string x.name, iv x.ends, iv x.n, iv x.kids]) := by
 have hl : at_ < n := by rw [← hp.pol.len]; exact (List.getElem?_eq_some_iff.1 hx).1
 obtain ⟨id, q, e0, hid, l0, l1, l2, l3, l4, lr⟩ := hp.pol.at.row hx
 rw [J4z hl] at e0
 simp only [Option.some.injEq, Value.pointer.injEq, Addr.mk.injEq, and_true] at e0
 obtain ⟨rfl, rfl⟩ := e0
 exact ⟨hl, l0, l1, l2, l3, l4, lr⟩
end
end Go.Proofs.YtipekdhneagdbaaDoor
