/- Part 17 of what the claim leans on: 12 texts laid one behind another. -/
import Derived.Test.YtipekdhneagdbaaDoorNL16
namespace Go.Proofs.YtipekdhneagdbaaDoor
open Go Go.Sx
set_option maxRecDepth 100000
set_option linter.unusedSimpArgs false
set_option linter.unusedVariables false
def it0 : List RowN := [rowK 7 (numB 114 0) 1, rowK 11 ByteArray.empty 1, rowK 23 ByteArray.empty 0]
def itC (c i : Nat) : List RowN := rowK 7 (numB 114 (i + 1)) 1 :: rowK 11 ByteArray.empty c :: List.replicate c (rowK 22 (numB 114 i) 0)
def itM (r : Nat) : List RowN := [rowK 10 ByteArray.empty 1, rowK 11 ByteArray.empty 1, rowK 22 (numB 114 r) 0]
def bigN (r c : Nat) : List RowN := rowK 1 pB ((r + 2 : Nat) : Int) :: (it0 ++ ((List.range r).flatMap (itC c) ++ itM r))
section
variable {r c : Nat}
theorem JnQ (i : Nat) : (itC c i).length = c + 2 := by simp [itC]
theorem JnI : (bigN r c).length = 7 + r * (c + 2) := by
 unfold bigN
 rw [List.length_cons, List.length_append, List.length_append, Jk7 (w := c + 2) JnQ, List.length_range]
 show 3 + (r * (c + 2) + 3) + 1 = _
 omega
theorem JpP : (bigN r c)[0]? = some (rowK 1 pB ((r + 2 : Nat) : Int)) := rfl
theorem Joi : (bigN r c)[1]? = some (rowK 7 (numB 114 0) 1) ∧ (bigN r c)[2]? = some (rowK 11 ByteArray.empty 1) ∧ (bigN r c)[3]? = some (rowK 23 ByteArray.empty 0) := ⟨rfl, rfl, rfl⟩
theorem JnV {i j : Nat} (hi : i < r) (hj : j < c + 2) : (bigN r c)[4 + i * (c + 2) + j]? = (itC c i)[j]? := by
 have hl : ((List.range r).flatMap (itC c)).length = r * (c + 2) := by rw [Jk7 (w := c + 2) JnQ, List.length_range]
 have hle : i * (c + 2) + (c + 2) ≤ r * (c + 2) := by
  have := Nat.mul_le_mul_right (c + 2) hi
  rw [Nat.succ_mul] at this
  exact this
 have h0 : it0.length = 3 := rfl
 unfold bigN
 rw [show 4 + i * (c + 2) + j = (3 + (i * (c + 2) + j)) + 1 by omega, List.getElem?_cons_succ, List.getElem?_append_right (by omega), h0, Nat.add_sub_cancel_left, List.getElem?_append_left (by omega)]
 exact JlZ (w := c + 2) (f := itC c) JnQ (JkL hi) hj
theorem JnW {j : Nat} : (bigN r c)[4 + r * (c + 2) + j]? = (itM r)[j]? := by
 have hl : ((List.range r).flatMap (itC c)).length = r * (c + 2) := by rw [Jk7 (w := c + 2) JnQ, List.length_range]
 have h0 : it0.length = 3 := rfl
 unfold bigN
 rw [show 4 + r * (c + 2) + j = (3 + (r * (c + 2) + j)) + 1 by omega, List.getElem?_cons_succ, List.getElem?_append_right (by omega), h0, Nat.add_sub_cancel_left, List.getElem?_append_right (by omega), hl, Nat.add_sub_cancel_left]
theorem Jpe {i : Nat} : (itC c i)[0]? = some (rowK 7 (numB 114 (i + 1)) 1) := rfl
theorem Jpf {i : Nat} : (itC c i)[1]? = some (rowK 11 ByteArray.empty c) := rfl
theorem Jpb {i j : Nat} (hj : j < c) : (itC c i)[2 + j]? = some (rowK 22 (numB 114 i) 0) := by
 show (rowK 7 _ 1 :: rowK 11 _ c :: List.replicate c _)[2 + j]? = _
 rw [show 2 + j = j + 1 + 1 by omega, List.getElem?_cons_succ, List.getElem?_cons_succ]
 simp [hj]
end
section
variable {l : List RowN} {p m : Nat}
theorem Jow {nm : ByteArray} (hn : J09 nm = true) : fitN J09 (rowK 22 nm 0) = true := Jle hn rfl rfl rfl
theorem Jo9 {k kids : Int} (hn : J3l k = false) (he : J09 ByteArray.empty = false) (h1 : decide (kids ≥ J1U k) = true) (h2 : (decide (J1r k < 0) || decide (kids ≤ J1r k)) = true) : fitN J09 (rowK k ByteArray.empty kids) = true := by
 unfold fitN rowK
 simp only [he, hn, h1, h2]
 rfl
theorem Joq : J09 ByteArray.empty = false := by kernel_rfl
theorem Jo6 {x : RowN} {what : Int} (hx : l[p]? = some x) (h0 : x.kids = 0) (hf : fitN J09 x = true) (hs : J1l what x.kind = true) : rowN J09 l (m + 1) p what = (p + 1, true) := by
 unfold rowN
 rw [hx]
 simp only
 rw [if_pos (by rw [hf, hs]; rfl), h0]
 rfl
theorem JnX {k0 : Int} {what : Int} (ha : ∀ k, J0A k0 k = what) : ∀ (c k p : Nat), (∀ j, j < c → rowN J09 l (m + 1) (p + j) what = (p + j + 1, true)) → J2r (fun k next => rowN J09 l (m + 1) next (J0A k0 k)) c k p = (p + c, true)
 | 0, k, p, _ => rfl
 | c + 1, k, p, h => by
  have h1 : rowN J09 l (m + 1) p what = (p + 1, true) := h 0 (by omega)
  unfold J2r
  simp only [ha k, h1, if_true]
  rw [JnX ha c (k + 1) (p + 1) fun j hj => by
   have := h (j + 1) (by omega)
   rw [show p + (j + 1) = p + 1 + j by omega] at this
   exact this]
  rw [show p + 1 + c = p + (c + 1) by omega]
theorem JnR {c : Nat} (hx : l[p]? = some (rowK 11 ByteArray.empty c)) (hl : ∀ j, j < c → rowN J09 l (m + 1) (p + 1 + j) 3 = (p + 1 + j + 1, true)) : rowN J09 l (m + 2) p 2 = (p + 1 + c, true) := by
 unfold rowN
 rw [hx]
 simp only
 rw [if_pos (by rw [Jo9 rfl Joq (by show decide ((c : Int) ≥ 0) = true; simp) rfl]; rfl)]
 have e : (rowK 11 ByteArray.empty (c : Int)).kids.toNat = c := by show ((c : Nat) : Int).toNat = c; omega
 rw [e]
 exact JnX (fun _ => rfl) c 0 (p + 1) hl
theorem Jom {x : RowN} {what : Int} {q : Nat} (hx : l[p]? = some x) (h1 : x.kids = 1) (hf : fitN J09 x = true) (hs : J1l what x.kind = true) (ha : J0A x.kind 0 = 2) (hb : rowN J09 l m (p + 1) 2 = (q, true)) : rowN J09 l (m + 1) p what = (q, true) := by
 unfold rowN
 rw [hx]
 simp only
 rw [if_pos (by rw [hf, hs]; rfl), h1]
 show J2r _ 1 0 (p + 1) = _
 unfold J2r
 simp only [ha, hb, if_true]
 rfl
end
section
variable {r c m : Nat}
theorem Jo1 : rowN J09 (bigN r c) (m + 2) 2 2 = (4, true) :=
 JnR (c := 1) (p := 2) Joi.2.1 fun j hj => by
  rw [show 2 + 1 + j = 3 by omega]
  exact Jo6 Joi.2.2 rfl (Jo9 rfl Joq rfl rfl) rfl
theorem JnY {i : Nat} (hi : i < r) (hr : r < 70) : rowN J09 (bigN r c) (m + 2) (4 + i * (c + 2) + 1) 2 = (4 + (i + 1) * (c + 2), true) := by
 have := JnR (m := m) (c := c) (l := bigN r c) (p := 4 + i * (c + 2) + 1) ((JnV hi (by omega)).trans Jpf) fun j hj => by
  refine Jo6 (x := rowK 22 (numB 114 i) 0) ?_ rfl (Jow (Jl7 (by omega)).1) rfl
  rw [show 4 + i * (c + 2) + 1 + 1 + j = 4 + i * (c + 2) + (2 + j) by omega]
  exact (JnV hi (by omega)).trans (Jpb hj)
 rw [this, Nat.succ_mul, show 4 + i * (c + 2) + 1 + 1 + c = 4 + (i * (c + 2) + (c + 2)) by omega]
theorem Jo2 (hr : r < 70) : rowN J09 (bigN r c) (m + 2) (4 + r * (c + 2) + 1) 2 = (7 + r * (c + 2), true) := by
 have := JnR (m := m) (c := 1) (l := bigN r c) (p := 4 + r * (c + 2) + 1) JnW fun j hj => by
  refine Jo6 (x := rowK 22 (numB 114 r) 0) ?_ rfl (Jow (Jl7 (by omega)).1) rfl
  rw [show 4 + r * (c + 2) + 1 + 1 + j = 4 + r * (c + 2) + 2 by omega]
  exact JnW
 rw [this, show 4 + r * (c + 2) + 1 + 1 + 1 = 7 + r * (c + 2) by omega]
theorem Joz : rowN J09 (bigN r c) (m + 3) 1 0 = (4, true) :=
 Jom Joi.1 rfl (Jle (Jl7 (by omega)).1 rfl rfl rfl) rfl rfl Jo1
theorem Jox {i : Nat} (hi : i < r) (hr : r < 70) : rowN J09 (bigN r c) (m + 3) (4 + i * (c + 2)) 0 = (4 + (i + 1) * (c + 2), true) :=
 Jom ((JnV hi (j := 0) (by omega)).trans Jpe) rfl (Jle (Jl7 (by omega)).1 rfl rfl rfl) rfl rfl (JnY hi hr)
theorem Jpa (hr : r < 70) : rowN J09 (bigN r c) (m + 3) (4 + r * (c + 2)) 1 = (7 + r * (c + 2), true) :=
 Jom (JnW (j := 0)) rfl (Jo9 rfl Joq rfl rfl) rfl rfl (Jo2 hr)
theorem Jp2 (hr : r < 70) : J2L J09 (bigN r c) = none := by
 have hlen := JnI (r := r) (c := c)
 have hp : fitN J09 (rowK 1 pB ((r + 2 : Nat) : Int)) = true := Jle (by kernel_rfl) rfl (by have : J1U 1 = 0 := rfl; rw [this]; simp; omega) rfl
 have key : topN J09 (bigN r c) ((bigN r c).length + 1) = ((bigN r c).length, true) := by
  unfold topN
  rw [JpP]
  simp only
  rw [if_pos (by rw [hp]; rfl)]
  have e : (rowK 1 pB ((r + 2 : Nat) : Int)).kids.toNat = 1 + (r + 1) := by
   show ((r + 2 : Nat) : Int).toNat = _
   rw [Int.toNat_natCast]
   omega
  rw [e]
  obtain ⟨m, hm⟩ : ∃ m, (bigN r c).length + 1 = m + 3 := ⟨(bigN r c).length - 2, by omega⟩
  rw [hm]
  rw [JkQ (sz := 3) 1 _ 1 fun i hi => ⟨by
   obtain rfl : i = 0 := by omega
   exact Joz, by
   obtain rfl : i = 0 := by omega
   rfl⟩]
  show polN J09 (bigN r c) (m + 3) (r + 1) false 4 = _
  rw [JkQ (sz := c + 2) r 1 4 fun i hi => ⟨by
   rw [Nat.mul_comm (c + 2) i, Nat.mul_comm (c + 2) (i + 1)]
   exact Jox hi hr, by
   rw [Nat.mul_comm (c + 2) i]
   have a := (JnV (c := c) hi (j := 0) (by omega)).trans Jpe
   rw [Nat.add_zero] at a
   rw [a]; rfl⟩]
  rw [Nat.mul_comm (c + 2) r]
  have hM := JnW (r := r) (c := c) (j := 0)
  rw [Nat.add_zero] at hM
  have hM' : (bigN r c)[4 + r * (c + 2)]? = some (rowK 10 ByteArray.empty 1) := hM
  have hd : J3J false (bigN r c)[4 + r * (c + 2)]? = 1 := by rw [hM']; rfl
  unfold polN
  rw [hd, Jpa hr]
  simp only [if_true]
  unfold polN
  rw [hlen]
 unfold J2L
 rw [key]
 exact if_pos ⟨rfl, rfl⟩
end
section
variable {l : List RowN}
theorem Joc {m p : Nat} (h : ∀ x, l[p]? = some x → x.kids.toNat = 0) : (levN l m p).1 ≤ 1 ∧ (levN l m p).2 ≤ p + 1 := by
 cases m with
 | zero => exact ⟨by show (0 : Int) ≤ 1; omega, by show p ≤ p + 1; omega⟩
 | succ m =>
  unfold levN
  cases hx : l[p]? with
  | none => exact ⟨by show (0 : Int) ≤ 1; omega, by show p ≤ p + 1; omega⟩
  | some x =>
   simp only
   rw [h x hx]
   have ho := J4A x.kind
   exact ⟨by show (0 : Int) + J1s x.kind ≤ 1; omega, Nat.le_refl _⟩
theorem Job {p : Nat} (h : ∀ x, l[p]? = some x → ∀ j, j < x.kids.toNat → ∀ y, l[p + 1 + j]? = some y → y.kids.toNat = 0) (m : Nat) : (levN l m p).1 ≤ 3 := by
 cases m with
 | zero => show (0 : Int) ≤ 3; omega
 | succ m =>
  unfold levN
  cases hx : l[p]? with
  | none => show (0 : Int) ≤ 3; omega
  | some x =>
   simp only
   have ho := J4A x.kind
   have key : ∀ (r k : Nat) (most : Int) (next : Nat), p + 1 ≤ next → next + r ≤ p + 1 + x.kids.toNat → most ≤ 2 → (levL (levN l m) l x.kind r k most next).1 ≤ 2 := by
    intro r
    induction r with
    | zero => intro k most next _ _ h0; exact h0
    | succ r ih =>
     intro k most next ha hb h0
     unfold levL
     split
     ·exact h0
     ·rename_i y hy
      have h4 := Joc (l := l) (m := m) (p := next) fun z hz => h x hx (next - (p + 1)) (by omega) z (by rw [show p + 1 + (next - (p + 1)) = next by omega]; exact hz)
      have h5 := J6p (J1f x.kind) (J1f y.kind) k
      have h6 := Jl5 (l := l) m next
      exact ih (k + 1) _ _ (by omega) (by omega) (by split <;> omega)
   have := key x.kids.toNat 0 0 (p + 1) (Nat.le_refl _) (Nat.le_refl _) (by omega)
   omega
theorem Jor {p : Nat} (h1 : ∀ x, l[p]? = some x → x.kids.toNat ≤ 1) (h : ∀ m, (levN l m (p + 1)).1 ≤ 3) (m : Nat) : (levN l m p).1 ≤ 5 := by
 cases m with
 | zero => show (0 : Int) ≤ 5; omega
 | succ m =>
  unfold levN
  cases hx : l[p]? with
  | none => show (0 : Int) ≤ 5; omega
  | some x =>
   simp only
   have ho := J4A x.kind
   have hk := h1 x hx
   have h3 := h m
   have key : (levL (levN l m) l x.kind x.kids.toNat 0 0 (p + 1)).1 ≤ 4 := by
    have hc : x.kids.toNat = 0 ∨ x.kids.toNat = 1 := by omega
    rcases hc with hc | hc
    ·rw [hc]
     show (0 : Int) ≤ 4
     omega
    ·rw [hc]
     unfold levL
     split
     ·show (0 : Int) ≤ 4; omega
     ·rename_i y hy
      have h5 := J6p (J1f x.kind) (J1f y.kind) 0
      show (if (levN l m (p + 1)).1 + J2i (J1f x.kind) (J1f y.kind) 0 > 0 then (levN l m (p + 1)).1 + J2i (J1f x.kind) (J1f y.kind) 0 else 0) ≤ 4
      split <;> omega
   omega
theorem Jpc (h : ∀ m p, 1 ≤ p → (levN l m p).1 ≤ 5) (m : Nat) : (levN l m 0).1 ≤ 64 := by
 cases m with
 | zero => show (0 : Int) ≤ 64; omega
 | succ m =>
  unfold levN
  cases l[0]? with
  | none => show (0 : Int) ≤ 64; omega
  | some x =>
   simp only
   have ho := J4A x.kind
   have := JmI (l := l) (g := levN l m) (kind := x.kind) (B := 5) (by decide) (fun p hp => ⟨(Jl5 m p).2, h m p hp, (Jl5 m p).1⟩) x.kids.toNat 0 0 (0 + 1) (by omega) (by omega) (by omega)
   omega
end
section
variable {r c : Nat}
theorem Jp3 {p : Nat} {x : RowN} (h : (bigN r c)[p]? = some x) (hp : 1 ≤ p) :
  (p = 1 ∧ x = rowK 7 (numB 114 0) 1) ∨ (p = 2 ∧ x = rowK 11 ByteArray.empty 1) ∨ (p = 3 ∧ x = rowK 23 ByteArray.empty 0) ∨
  (∃ i, i < r ∧ ((p = 4 + i * (c + 2) ∧ x = rowK 7 (numB 114 (i + 1)) 1) ∨ (p = 4 + i * (c + 2) + 1 ∧ x = rowK 11 ByteArray.empty c) ∨ ∃ j, j < c ∧ p = 4 + i * (c + 2) + (2 + j) ∧ x = rowK 22 (numB 114 i) 0)) ∨
  (p = 4 + r * (c + 2) ∧ x = rowK 10 ByteArray.empty 1) ∨ (p = 4 + r * (c + 2) + 1 ∧ x = rowK 11 ByteArray.empty 1) ∨ (p = 4 + r * (c + 2) + 2 ∧ x = rowK 22 (numB 114 r) 0) := by
 have hl := (List.getElem?_eq_some_iff.1 h).1
 rw [JnI] at hl
 by_cases h1 : p < 4
 ·have hc : p = 1 ∨ p = 2 ∨ p = 3 := by omega
  rcases hc with rfl | rfl | rfl
  ·exact .inl ⟨rfl, Option.some.inj (h.symm.trans Joi.1)⟩
  ·exact .inr (.inl ⟨rfl, Option.some.inj (h.symm.trans Joi.2.1)⟩)
  ·exact .inr (.inr (.inl ⟨rfl, Option.some.inj (h.symm.trans Joi.2.2)⟩))
 by_cases h2 : p < 4 + r * (c + 2)
 ·obtain ⟨i, j, hj, e⟩ : ∃ i j, j < c + 2 ∧ p = 4 + i * (c + 2) + j := ⟨(p - 4) / (c + 2), (p - 4) % (c + 2), Nat.mod_lt _ (by omega), by
   have := Nat.div_add_mod (p - 4) (c + 2)
   rw [Nat.mul_comm] at this
   omega⟩
  have hi : i < r := by
   rcases Nat.lt_or_ge i r with h9 | h9
   ·exact h9
   ·have := Nat.mul_le_mul_right (c + 2) h9
    omega
  have hh := JnV (r := r) hi hj
  rw [← e, h] at hh
  refine .inr (.inr (.inr (.inl ⟨i, hi, ?_⟩)))
  by_cases j0 : j = 0
  ·subst j0
   exact .inl ⟨e, Option.some.inj (hh.trans Jpe)⟩
  by_cases j1 : j = 1
  ·subst j1
   exact .inr (.inl ⟨e, Option.some.inj (hh.trans Jpf)⟩)
  ·rw [show j = 2 + (j - 2) by omega, Jpb (by omega)] at hh
   exact .inr (.inr ⟨j - 2, by omega, by omega, Option.some.inj hh⟩)
 ·have hc : p = 4 + r * (c + 2) ∨ p = 4 + r * (c + 2) + 1 ∨ p = 4 + r * (c + 2) + 2 := by omega
  rcases hc with rfl | rfl | rfl
  ·exact .inr (.inr (.inr (.inr (.inl ⟨rfl, Option.some.inj (h.symm.trans (JnW (j := 0)))⟩))))
  ·exact .inr (.inr (.inr (.inr (.inr (.inl ⟨rfl, Option.some.inj (h.symm.trans (JnW (j := 1)))⟩)))))
  ·exact .inr (.inr (.inr (.inr (.inr (.inr ⟨rfl, Option.some.inj (h.symm.trans (JnW (j := 2)))⟩)))))
theorem Jog (hr : r < 70) : J0v (bigN r c) = (0, 0) := by
 have leafK : ∀ {p : Nat} {k : Int} {nm : ByteArray}, (bigN r c)[p]? = some (rowK k nm 0) → ∀ y, (bigN r c)[p]? = some y → y.kids.toNat = 0 := fun h y hy => by
  rw [h] at hy
  cases hy
  rfl
 have near0 : ∀ m, (levN (bigN r c) m 2).1 ≤ 3 := Job fun x hx j hj y hy => by
  rw [Joi.2.1] at hx
  cases hx
  have hj' : j < 1 := hj
  obtain rfl : j = 0 := by omega
  exact leafK Joi.2.2 y hy
 have nearC : ∀ i, i < r → ∀ m, (levN (bigN r c) m (4 + i * (c + 2) + 1)).1 ≤ 3 := fun i hi => Job fun x hx j hj y hy => by
  rw [(JnV hi (j := 1) (by omega)).trans Jpf] at hx
  cases hx
  have hj' : j < c := by
   have : j < ((c : Nat) : Int).toNat := hj
   omega
  refine leafK (k := 22) (nm := numB 114 i) ?_ y hy
  rw [show 4 + i * (c + 2) + 1 + 1 + j = 4 + i * (c + 2) + (2 + j) by omega]
  exact (JnV hi (by omega)).trans (Jpb hj')
 have nearM : ∀ m, (levN (bigN r c) m (4 + r * (c + 2) + 1)).1 ≤ 3 := Job fun x hx j hj y hy => by
  rw [show (bigN r c)[4 + r * (c + 2) + 1]? = some (rowK 11 ByteArray.empty 1) from JnW (j := 1)] at hx
  cases hx
  have hj' : j < 1 := hj
  obtain rfl : j = 0 := by omega
  exact leafK (k := 22) (nm := numB 114 r) (show (bigN r c)[4 + r * (c + 2) + 2]? = _ from JnW (j := 2)) y hy
 have hlev : ∀ m p, 1 ≤ p → (levN (bigN r c) m p).1 ≤ 5 := fun m p hp => by
  cases hx : (bigN r c)[p]? with
  | none =>
   have := (Joc (l := bigN r c) (m := m) (p := p) fun x h => by rw [hx] at h; cases h).1
   omega
  | some x =>
   have one : x.kids = 1 → ∀ z, (bigN r c)[p]? = some z → z.kids.toNat ≤ 1 := fun h1 z hz => by
    rw [hx] at hz
    cases hz
    rw [h1]
    decide
   have leaf : x.kids = 0 → (levN (bigN r c) m p).1 ≤ 5 := fun h0 => by
    have := (Joc (l := bigN r c) (m := m) (p := p) fun z hz => by rw [hx] at hz; cases hz; rw [h0]; rfl).1
    omega
   rcases Jp3 hx hp with ⟨rfl, rfl⟩ | ⟨rfl, rfl⟩ | ⟨rfl, rfl⟩ | ⟨i, hi, ⟨rfl, rfl⟩ | ⟨rfl, rfl⟩ | ⟨j, hj, rfl, rfl⟩⟩ | ⟨rfl, rfl⟩ | ⟨rfl, rfl⟩ | ⟨rfl, rfl⟩
   ·exact Jor (one rfl) near0 m
   ·have := near0 m; omega
   ·exact leaf rfl
   ·exact Jor (one rfl) (nearC i hi) m
   ·have := nearC i hi m; omega
   ·exact leaf rfl
   ·exact Jor (one rfl) nearM m
   ·have := nearM m; omega
   ·exact leaf rfl
 unfold J0v
 rw [Jp2 hr]
 have := Jpc hlev ((bigN r c).length + 1)
 exact if_neg (by omega)
end
section
variable {r c : Nat}
theorem JnU {l : List RowN} {m p q : Nat} {what : Int} (h : rowN J09 l m p what = (q, true)) : endN l p = q := J5P (.inl ⟨m, what, h⟩)
theorem JnL (hr : r < 70) : endN (bigN r c) 1 = 4 ∧ endN (bigN r c) 2 = 4 ∧ (∀ i, i < r → endN (bigN r c) (4 + i * (c + 2)) = 4 + (i + 1) * (c + 2) ∧ endN (bigN r c) (4 + i * (c + 2) + 1) = 4 + (i + 1) * (c + 2)) ∧ endN (bigN r c) (4 + r * (c + 2) + 1) = 7 + r * (c + 2) :=
 ⟨JnU (m := 3) Joz, JnU (m := 2) Jo1, fun i hi => ⟨JnU (m := 3) (Jox hi hr), JnU (m := 2) (JnY hi hr)⟩, JnU (m := 2) (Jo2 hr)⟩
end
theorem JnJ {z : List Value} : ∀ n, (J3e z n).length = n * z.length
 | 0 => by simp [J3e]
 | n + 1 => by rw [J3e, List.length_append, JnJ n, Nat.succ_mul]; omega
section
variable {P : Program} {t e : TypeId} {w b : Nat} {z : Value} {h : SHeap}
end
structure LentC (h : SHeap) (o n w : Nat) (cs mk z : List Value) (e : TypeId) : Prop where
 g : h.get o = .row (cs ++ (mk ++ J3e z 2)) e false false
 len : cs.length = n * w
 mlen : mk.length = w
 zlen : z.length = w
section
variable {t e : TypeId} {w b : Nat} {z : Value} {h : SHeap}
end
section
variable {t e : TypeId} {w b : Nat} {z : Value} {h : SHeap}
end
section
variable {h h' : SHeap} {o n w : Nat} {cs mk z : List Value} {e : TypeId}
theorem LentC.mono (hl : LentC h o n w cs mk z e) (hg : h'.get o = h.get o) : LentC h' o n w cs mk z e := ⟨by rw [hg]; exact hl.g, hl.len, hl.mlen, hl.zlen⟩
theorem LentC.cells (hl : LentC h o n w cs mk z e) {lo c : Nat} (ho : lo ≤ o ∧ o < h.next) : J0p lo h (.slice (some ⟨o, 0, none⟩) n c) n w cs := J0p.row hl.g ho hl.len
theorem LentC.mark (hl : LentC h o n w cs mk z e) {lo c : Nat} (ho : lo ≤ o ∧ o < h.next) : J0p lo h (.slice (some ⟨o, 0, none⟩) (n + 1) c) (n + 1) w (cs ++ mk) :=
 J0p.row (ex := J3e z 2) (by rw [List.append_assoc]; exact hl.g) ho (by rw [List.length_append, hl.len, hl.mlen, Nat.succ_mul])
end
section
variable {call : J0r} {n N : Nat} {h : SHeap}
end
structure LentPol (h : SHeap) (b : Nat) (v : Value) (nm : ByteArray) (s : StN) (o : Nat → Nat) : Prop where
 v : v = .agg #[.string nm, .slice (some ⟨o 1, 0, none⟩) s.rows.length (s.rows.length + 9), .slice (some ⟨o 2, 0, none⟩) s.queues.length (s.queues.length + 3), .slice (some ⟨o 3, 0, none⟩) s.vars.length (s.vars.length + 3), .slice (some ⟨o 4, 0, none⟩) s.tags.length (s.tags.length + 3), .slice (some ⟨o 5, 0, none⟩) s.rules.length (s.rules.length + 3), .slice (some ⟨o 6, 0, none⟩) s.on.length (s.on.length + 3), iv s.miss]
 far : b ≤ o 1 ∧ o 1 < o 2 ∧ o 2 < o 3 ∧ o 3 < o 4 ∧ o 4 < o 5 ∧ o 5 < o 6 ∧ o 6 < h.next
 r : ∃ L, LentAt h (o 1) s.rows L
 q : LentC h (o 2) s.queues.length 2 (J3S s.queues) [.string JcY, .bool false] [.string ByteArray.empty, .bool false] 57
 w : LentC h (o 3) s.vars.length 1 (strs s.vars) [.string JcY] [.string ByteArray.empty] 9
 t : LentC h (o 4) s.tags.length 1 (strs s.tags) [.string JcY] [.string ByteArray.empty] 9
 u : LentC h (o 5) s.rules.length 1 (ints s.rules) [iv (-77)] [iv 0] 3
 p : LentC h (o 6) s.on.length 1 (ints s.on) [iv (-77)] [iv 0] 3
section
variable {n N : Nat} {h : SHeap}
end
theorem JnT {h : SHeap} {o : Nat} {l L : List RowN} (hL : LentAt h o l L) (ho : o < h.next) : J0l h (.slice (some ⟨o, 0, none⟩) l.length (l.length + 9)) l := by
 refine ⟨_, _, rfl, .inr ⟨o, 0, _, _, _, _, rfl, hL.g, ho, fun k r hk => ?_⟩⟩
 have hkl := (List.getElem?_eq_some_iff.1 hk).1
 rw [Nat.zero_add]
 exact J2Y ((hL.own k hkl).trans hk)
theorem LentC.size {h : SHeap} {o n w : Nat} {cs mk z : List Value} {e : TypeId} (hl : LentC h o n w cs mk z e) : (cs ++ (mk ++ J3e z 2)).length = (n + 3) * w := by
 rw [List.length_append, List.length_append, JnJ, hl.len, hl.mlen, hl.zlen]
 simp only [Nat.add_mul]
 omega
section
variable {n N : Nat} {h : SHeap}
end
theorem LentPol.pol {h : SHeap} {b : Nat} {v : Value} {nm : ByteArray} {s : StN} {o : Nat → Nat} (hL : LentPol h b v nm s o) : J3x 0 h v nm s := by
 obtain ⟨rfl, ⟨u1, u2, u3, u4, u5, u6, u7⟩, ⟨L, L1⟩, L2, L3, L4, L5, L6⟩ := hL
 exact ⟨_, _, _, _, _, _, rfl, J0l.cells (JnT L1 (by omega)), L2.cells ⟨Nat.zero_le _, by omega⟩, L3.cells ⟨Nat.zero_le _, by omega⟩, L4.cells ⟨Nat.zero_le _, by omega⟩, L5.cells ⟨Nat.zero_le _, by omega⟩, L6.cells ⟨Nat.zero_le _, by omega⟩⟩
theorem LentPol.mono {h h' : SHeap} {b : Nat} {v : Value} {nm : ByteArray} {s : StN} {o : Nat → Nat} (hL : LentPol h b v nm s o) (hn : h.next ≤ h'.next) (hg : ∀ i, i < h.next → h'.get i = h.get i) : LentPol h' b v nm s o := by
 obtain ⟨hv, ⟨u1, u2, u3, u4, u5, u6, u7⟩, ⟨L, L1⟩, L2, L3, L4, L5, L6⟩ := hL
 exact ⟨hv, ⟨u1, u2, u3, u4, u5, u6, by omega⟩, ⟨L, by rw [hg _ (by omega)]; exact L1.g, L1.len, L1.own, L1.marks⟩, L2.mono (hg _ (by omega)), L3.mono (hg _ (by omega)), L4.mono (hg _ (by omega)), L5.mono (hg _ (by omega)), L6.mono (hg _ (by omega))⟩
theorem LentPol.lies {h : SHeap} {b : Nat} {v : Value} {nm : ByteArray} {s : StN} {o : Nat → Nat} (hL : LentPol h b v nm s o) : ∀ nm' vr vq vv vt vu vo m, v = .agg #[.string nm', vr, vq, vv, vt, vu, vo, m] → Lies vr s.rows.length := by
 intro nm' vr vq vv vt vu vo m hv
 rw [hL.v] at hv
 simp only [Value.agg.injEq, Array.mk.injEq, List.cons.injEq] at hv
 obtain ⟨_, h1, _⟩ := hv
 subst h1
 exact ⟨_, _, _, rfl⟩
section
variable {n N : Nat} {h : SHeap}
end
theorem Jo5 {l : List RowN} {s : StN} (hi : InvR l l.length s) : Jkk s.rows l := by
 refine ⟨hi.len, fun i x hx => ?_⟩
 have hl := (List.getElem?_eq_some_iff.1 hx).1
 obtain ⟨y, hy⟩ : ∃ y, s.rows[i]? = some y := ⟨_, List.getElem?_eq_getElem (by rw [hi.len]; exact hl)⟩
 obtain ⟨z, hz, he⟩ := hi.same i y hy
 rw [hx] at hz
 cases hz
 exact ⟨y, hy, by rw [he]⟩
noncomputable def Jol : Array Oper := J18 Tryd.f26 3
def Jpv : List (Bool × Bool × List Operand) := [(true, true, []), (false, true, [.tmp 2]), (false, true, [.tmp 2]), (false, true, [.tmp 2]), (false, false, []), (true, true, [.tmp 2, .tmp 20]), (false, false, []), (false, false, [])]
theorem Jof : J1E Jol = Jpv := by kernel_rfl
noncomputable def JnM (l : List RowN) (k : Nat) : Int := cAt (resN l).2.rows (J0o l) (J42 (resN l).2.rows (J0o l) (resN l).2.rules) k
section
variable {n N : Nat} {h : SHeap} {l : List RowN}
end
def JnO (kind : Int) (nm : ByteArray) (n kids : Int) : RowN := ⟨kind, nm, 0, n, kids⟩
def itCn (c i : Nat) : List RowN := JnO 7 (numB 114 (i + 1)) ((i + 1 : Nat) : Int) 1 :: rowK 11 ByteArray.empty c :: List.replicate c (JnO 22 (numB 114 i) i 0)
def preN (r c : Nat) : List RowN := rowK 1 pB ((r + 2 : Nat) : Int) :: (it0 ++ (List.range r).flatMap (itCn c))
def itMn (r : Nat) : List RowN := [rowK 10 ByteArray.empty 1, rowK 11 ByteArray.empty 1, JnO 22 (numB 114 r) r 0]
def finN (r c : Nat) : List RowN := preN r c ++ itMn r
section
variable {r c : Nat}
theorem Jou (i : Nat) : (itCn c i).length = c + 2 := by simp [itCn]
theorem JnS : (preN r c).length = 4 + r * (c + 2) := by
 unfold preN
 rw [List.length_cons, List.length_append, Jk7 (w := c + 2) Jou, List.length_range]
 show 3 + r * (c + 2) + 1 = _
 omega
theorem Jpk : (finN r c).length = 7 + r * (c + 2) := by
 unfold finN
 rw [List.length_append, JnS]
 show 4 + r * (c + 2) + 3 = _
 omega
theorem Jpl {p : Nat} (h : p < 4) : (finN r c)[p]? = (bigN r c)[p]? := by
 have hc : p = 0 ∨ p = 1 ∨ p = 2 ∨ p = 3 := by omega
 rcases hc with rfl | rfl | rfl | rfl <;> rfl
theorem Jpw {i j : Nat} (hi : i < r) (hj : j < c + 2) : (finN r c)[4 + i * (c + 2) + j]? = (itCn c i)[j]? := by
 have hle : i * (c + 2) + (c + 2) ≤ r * (c + 2) := by
  have := Nat.mul_le_mul_right (c + 2) hi
  rw [Nat.succ_mul] at this
  exact this
 have h0 : it0.length = 3 := rfl
 unfold finN
 rw [List.getElem?_append_left (by rw [JnS]; omega)]
 unfold preN
 rw [show 4 + i * (c + 2) + j = (3 + (i * (c + 2) + j)) + 1 by omega, List.getElem?_cons_succ, List.getElem?_append_right (by omega), h0, Nat.add_sub_cancel_left]
 exact JlZ (w := c + 2) (f := itCn c) Jou (JkL hi) hj
theorem JpB {j : Nat} : (finN r c)[4 + r * (c + 2) + j]? = (itMn r)[j]? := by
 unfold finN
 rw [List.getElem?_append_right (by rw [JnS]; omega), JnS, Nat.add_sub_cancel_left]
theorem JpE {i j : Nat} (hj : j < c) : (itCn c i)[2 + j]? = some (JnO 22 (numB 114 i) i 0) := by
 show (JnO 7 _ _ 1 :: rowK 11 _ c :: List.replicate c _)[2 + j]? = _
 rw [show 2 + j = j + 1 + 1 by omega, List.getElem?_cons_succ, List.getElem?_cons_succ]
 simp [hj]
end
def blkZ (c j : Nat) : Int := if j = 0 then 2 else ((4 + (j - 1) * (c + 2) + 1 : Nat) : Int)
section
variable {E : List Int} {s : StN} {at_ : Nat} {x : RowN} {t : ThN}
theorem JoD (hx : s.rows[at_]? = some x) (hd : J0j x.kind = 0) (hc : J1O x.kind ≠ 0) (he : J0E x.kind = false) (hf : J30 s.things x.name = some t) (hk : t.known ≤ at_) (ht : t.kind = J1O x.kind) : J31 E at_ s = (0, { s with rows := setN s.rows at_ t.num }) := by
 have d0 : J25 x s = 0 := by unfold J25; rw [if_pos hd]
 have hS : J0W at_ ((E[at_]?).getD 0) x s = s := by unfold J0W; rw [if_pos hd]
 have c0 : J1v at_ x s = 0 := by
  unfold J1v
  rw [if_neg hc, hf]
  simp only
  rw [if_neg (by omega), if_neg (by rw [ht]; exact fun h => h rfl)]
 have c1 : J0D at_ x s = { s with rows := setN s.rows at_ t.num } := by unfold J0D; rw [if_neg hc, hf]
 have hr : (setN s.rows at_ t.num)[at_]? = some { x with n := t.num } := J4g hx
 unfold J31
 rw [hx]
 simp only
 rw [if_neg (fun h => h d0), hS, hx]
 simp only
 rw [if_neg (fun h => h c0), c1, hr]
 simp only
 have e0 : evE { x with n := t.num } { s with rows := setN s.rows at_ t.num } = 0 := by unfold evE; rw [if_pos he]
 have e1 : evS at_ { x with n := t.num } { s with rows := setN s.rows at_ t.num } = { s with rows := setN s.rows at_ t.num } := by unfold evS; rw [if_pos he]
 rw [if_neg (fun h => h e0), e1]
theorem JoG (hx : s.rows[at_]? = some x) (hk : x.kind = 10) (hm : s.miss = -1) : J31 E at_ s = (0, { s with miss := (at_ : Int) + 1 }) := by
 have hd : J0j x.kind = 0 := by rw [hk]; rfl
 have hc : J1O x.kind = 0 := by rw [hk]; rfl
 have he : ¬ J0E x.kind = false := by rw [hk]; decide
 have d0 : J25 x s = 0 := by unfold J25; rw [if_pos hd]
 have hS : J0W at_ ((E[at_]?).getD 0) x s = s := by unfold J0W; rw [if_pos hd]
 have c0 : J1v at_ x s = 0 := by unfold J1v; rw [if_pos hc]
 have c1 : J0D at_ x s = s := by unfold J0D; rw [if_pos hc]
 have e0 : evE x s = 0 := by unfold evE; rw [if_neg he, if_pos hk, if_neg (by omega)]
 have e1 : evS at_ x s = { s with miss := (at_ : Int) + 1 } := by unfold evS; rw [if_neg he, if_pos hk]
 unfold J31
 rw [hx]
 simp only
 rw [if_neg (fun h => h d0), hS, hx]
 simp only
 rw [if_neg (fun h => h c0), c1, hx]
 simp only
 rw [if_neg (fun h => h e0), e1]
theorem Joe {nm : ByteArray} {k known : Int} : ∀ (c : Nat) (p : Nat) (s : StN), (∀ j, j < c → s.rows[p + j]? = some (rowK 22 nm 0)) → J30 s.things nm = some ⟨nm, 4, k, known⟩ → known ≤ p →
  ∃ s', (∀ n, goN E (c + n) p s = goN E n (p + c) s') ∧ s'.rules = s.rules ∧ s'.miss = s.miss ∧ s'.things = s.things ∧ s'.rows.length = s.rows.length ∧ (∀ q, q < p ∨ p + c ≤ q → s'.rows[q]? = s.rows[q]?) ∧ ∀ j, j < c → s'.rows[p + j]? = some (JnO 22 nm k 0)
 | 0, p, s, _, _, _ => ⟨s, fun n => by rw [Nat.zero_add, Nat.add_zero], rfl, rfl, rfl, rfl, fun _ _ => rfl, fun j hj => by omega⟩
 | c + 1, p, s, h, hf, hk => by
  have h0 := h 0 (by omega)
  rw [Nat.add_zero] at h0
  have hst := JoD (E := E) h0 (show J0j 22 = 0 from rfl) (show J1O 22 ≠ 0 by decide) rfl hf hk rfl
  obtain ⟨s', g1, g2, g3, g4, g5, g6, g7⟩ := Joe (nm := nm) (k := k) (known := known) c (p + 1) { s with rows := setN s.rows p k } (fun j hj => by
   show (setN s.rows p k)[p + 1 + j]? = _
   rw [J4M (by omega), show p + 1 + j = p + (j + 1) by omega]
   exact h (j + 1) (by omega)) hf (by omega)
  refine ⟨s', fun n => ?_, g2, g3, g4, g5.trans J4N, fun q hq => ?_, fun j hj => ?_⟩
  ·rw [show c + 1 + n = (c + n) + 1 by omega, JlY hst, g1, show p + 1 + c = p + (c + 1) by omega]
  ·rw [g6 q (by omega)]
   exact J4M (by omega)
  ·by_cases hj0 : j = 0
   ·subst hj0
    rw [Nat.add_zero, g6 p (by omega)]
    exact J4g h0
   ·have := g7 (j - 1) (by omega)
    rw [show p + 1 + (j - 1) = p + j by omega] at this
    exact this
end
structure BigI (r c i p : Nat) (s : StN) : Prop where
 u : s.rules = (List.range (i + 1)).map (blkZ c)
 m : s.miss = -1
 len : s.rows.length = (bigN r c).length
 done : ∀ q, q < p → s.rows[q]? = (finN r c)[q]?
 later : ∀ q, p ≤ q → s.rows[q]? = (bigN r c)[q]?
 th : ∀ j, j ≤ i → ∃ k, J30 s.things (numB 114 j) = some ⟨numB 114 j, 4, (j : Nat), k⟩ ∧ k ≤ p
 new : ∀ j, i < j → j < 1000 → J30 s.things (numB 114 j) = none
theorem JnK {A : List ThN} {t : ThN} {x : ByteArray} : J30 (A ++ [t]) x = match J30 A x with
  | some y => some y
  | none => if (x == t.name) = true then some t else none := by
 unfold J30
 rw [List.find?_append, List.find?_cons, List.find?_nil]
 cases List.find? (fun t => x == t.name) A with
 | some y => rfl
 | none =>
  simp only [Option.none_or]
  cases h : (x == t.name) <;> simp [h]
section
variable {r c : Nat}
theorem Joy {i j : Nat} : (numB 114 i == numB 114 j) = true ↔ numB 114 i = numB 114 j := by
 constructor
 ·exact J3o
 ·intro h
  rw [h]
  exact J34 _
theorem Jpd (hr : r < 64) : ∀ i s, i < r → BigI r c i (4 + (c + 2) * i) s → ∃ s', (∀ n, goN (J0o (bigN r c)) (c + 2 + n) (4 + (c + 2) * i) s = goN (J0o (bigN r c)) n (4 + (c + 2) * (i + 1)) s') ∧ BigI r c (i + 1) (4 + (c + 2) * (i + 1)) s' := fun i s hi h => by
 rw [Nat.mul_comm (c + 2) i] at h ⊢
 rw [Nat.mul_comm (c + 2) (i + 1)]
 have hle : i * (c + 2) + (c + 2) ≤ r * (c + 2) := by
  have := Nat.mul_le_mul_right (c + 2) hi
  rw [Nat.succ_mul] at this
  exact this
 have hlen := JnI (r := r) (c := c)
 have a := (JnV (c := c) hi (j := 0) (by omega)).trans Jpe
 have b := (JnV (c := c) hi (j := 1) (by omega)).trans Jpf
 rw [Nat.add_zero] at a
 have hE : ((J0o (bigN r c))[4 + i * (c + 2)]?).getD 0 = ((4 + (i + 1) * (c + 2) : Nat) : Int) := by
  rw [J2B (by rw [hlen]; omega), ((JnL (r := r) (c := c) (by omega)).2.2.1 i hi).1]
  rfl
 generalize he : (4 + (i + 1) * (c + 2) : Nat) = e at *
 have he' : e = 4 + i * (c + 2) + (c + 2) := by rw [← he, Nat.succ_mul]; omega
 have hfa : ∀ j, 4 + i * (c + 2) + j < e → 2 ≤ j → (bigN r c)[4 + i * (c + 2) + j]? = some (rowK 22 (numB 114 i) 0) := fun j h1 h2 => by
  have := (JnV (c := c) hi (j := 2 + (j - 2)) (by omega)).trans (Jpb (by omega))
  rw [show 2 + (j - 2) = j by omega] at this
  exact this
 have hfn : ∀ j, j < c + 2 → (finN r c)[4 + i * (c + 2) + j]? = (itCn c i)[j]? := fun j hj => Jpw hi hj
 generalize hp : 4 + i * (c + 2) = p at *
 have hx : s.rows[p]? = some (rowK 7 (numB 114 (i + 1)) 1) := (h.later _ (Nat.le_refl _)).trans a
 have hul : s.rules.length = i + 1 := by rw [h.u, List.length_map, List.length_range]
 have h0 : J25 (rowK 7 (numB 114 (i + 1)) 1) s = 0 := by
  rw [Jkg (show J0j 7 ≠ 0 by decide) (h.new (i + 1) (by omega) (by omega))]
  refine if_neg fun h9 => ?_
  have h8 : ((s.rules.length : Nat) : Int) = 64 := h9
  rw [hul] at h8
  omega
 have hit := fun n => Jl4 (E := J0o (bigN r c)) (k := 1) (n := n) hx (show J0j 7 ≠ 0 by decide) rfl rfl h0 (fun j hj => ⟨rowK 11 ByteArray.empty c, by rw [show p + 1 + j = p + 1 by omega]; exact (h.later _ (by omega)).trans b, rfl, rfl, rfl⟩)
 rw [hE] at hit
 obtain ⟨kn, t1, t2⟩ := h.th i (Nat.le_refl _)
 have hthings : (addN p (e : Int) (rowK 7 (numB 114 (i + 1)) 1) s).things = s.things ++ [⟨numB 114 (i + 1), 4, ((i + 1 : Nat) : Int), (e : Int)⟩] := by
  show s.things ++ [⟨numB 114 (i + 1), 4, ((s.rules.length : Nat) : Int), (e : Int)⟩] = _
  rw [hul]
 have hrow : (addN p (e : Int) (rowK 7 (numB 114 (i + 1)) 1) s).rows = setN s.rows p ((i + 1 : Nat) : Int) := by
  show setN s.rows p ((s.rules.length : Nat) : Int) = _
  rw [hul]
 obtain ⟨s', g1, g2, g3, g4, g5, g6, g7⟩ := Joe (E := J0o (bigN r c)) (nm := numB 114 i) (k := (i : Int)) (known := kn) c (p + 2) (addN p (e : Int) (rowK 7 (numB 114 (i + 1)) 1) s) (fun j hj => by
  rw [hrow, J4M (by omega), h.later _ (by omega), show p + 2 + j = p + (2 + j) by omega]
  exact hfa (2 + j) (by omega) (by omega)) (by rw [hthings, JnK, t1]) (by omega)
 refine ⟨s', fun n => ?_, ?_⟩
 ·have := hit (c + n)
  rw [show 1 + 1 + (c + n) = c + 2 + n by omega] at this
  rw [this, g1, he', show p + 2 + c = p + (c + 2) by omega]
 have hpx : s'.rows[p]? = some (JnO 7 (numB 114 (i + 1)) ((i + 1 : Nat) : Int) 1) := by
  rw [g6 p (by omega), hrow]
  exact J4g hx
 refine ⟨?_, g3.trans h.m, ?_, fun q hq => ?_, fun q hq => ?_, fun j hj => ?_, fun j hj hj2 => ?_⟩
 ·rw [g2]
  show s.rules ++ [(p : Int) + 1] = _
  rw [h.u, List.range_succ (n := i + 1), List.map_append]
  congr 1
  show [(p : Int) + 1] = [blkZ c (i + 1)]
  unfold blkZ
  rw [if_neg (by omega), show i + 1 - 1 = i by omega, hp]
  rfl
 ·rw [g5, hrow, J4N]
  exact h.len
 ·by_cases h1 : q < p
  ·rw [g6 q (by omega), hrow, J4M (by omega)]
   exact h.done q h1
  ·obtain ⟨j, rfl⟩ : ∃ j, q = p + j := ⟨q - p, by omega⟩
   rw [hfn j (by omega)]
   by_cases j0 : j = 0
   ·subst j0
    exact hpx
   by_cases j1 : j = 1
   ·subst j1
    rw [g6 (p + 1) (by omega), hrow, J4M (by omega)]
    exact (h.later _ (by omega)).trans b
   ·obtain ⟨k, rfl⟩ : ∃ k, j = 2 + k := ⟨j - 2, by omega⟩
    rw [JpE (by omega), show p + (2 + k) = p + 2 + k by omega]
    exact g7 k (by omega)
 ·rw [g6 q (by omega), hrow, J4M (by omega)]
  exact h.later q (by omega)
 ·rw [g4, hthings, JnK]
  by_cases hji : j ≤ i
  ·obtain ⟨k, k1, k2⟩ := h.th j hji
   rw [k1]
   exact ⟨k, rfl, by omega⟩
  ·obtain rfl : j = i + 1 := by omega
   rw [h.new (i + 1) (by omega) (by omega)]
   simp only
   rw [if_pos (Joy.2 rfl)]
   exact ⟨(e : Int), rfl, by omega⟩
 ·rw [g4, hthings, JnK, h.new j (by omega) hj2]
  simp only
  rw [if_neg fun h9 => by
   have := JlV (by omega) (by omega) (Joy.1 h9)
   omega]
theorem Jp8 (hr : r < 64) : ∃ s, (∀ n, goN (J0o (bigN r c)) (4 + n) 0 (s0N (bigN r c)) = goN (J0o (bigN r c)) n 4 s) ∧ BigI r c 0 4 s := by
 have hlen := JnI (r := r) (c := c)
 have hE : ((J0o (bigN r c))[1]?).getD 0 = (4 : Int) := by
  rw [J2B (by rw [hlen]; omega), (JnL (r := r) (c := c) (by omega)).1]
  rfl
 have h0 : J25 (rowK 7 (numB 114 0) 1) (s0N (bigN r c)) = 0 := by
  rw [Jkg (show J0j 7 ≠ 0 by decide) rfl]
  exact if_neg (show ¬ ((0 : Nat) : Int) = 64 by decide)
 have hit := fun n => Jl4 (E := J0o (bigN r c)) (p := 1) (s := s0N (bigN r c)) (k := 2) (n := n) (x := rowK 7 (numB 114 0) 1) rfl (show J0j 7 ≠ 0 by decide) rfl rfl h0 (fun j hj => by
  have hc : j = 0 ∨ j = 1 := by omega
  rcases hc with rfl | rfl
  ·exact ⟨rowK 11 ByteArray.empty 1, rfl, rfl, rfl, rfl⟩
  ·exact ⟨rowK 23 ByteArray.empty 0, rfl, rfl, rfl, rfl⟩)
 rw [hE] at hit
 refine ⟨addN 1 4 (rowK 7 (numB 114 0) 1) (s0N (bigN r c)), fun n => ?_, ?_⟩
 ·rw [show 4 + n = 1 + (2 + 1 + n) by omega, Jln 1 (2 + 1 + n) 0 fun j hj => ⟨rowK 1 pB ((r + 2 : Nat) : Int), by rw [show 0 + j = 0 by omega]; rfl, rfl, rfl, rfl⟩]
  exact hit n
 ·have hrow : (addN 1 4 (rowK 7 (numB 114 0) 1) (s0N (bigN r c))).rows = setN (bigN r c) 1 0 := rfl
  refine ⟨rfl, rfl, by rw [hrow]; exact J4N, fun q hq => ?_, fun q hq => ?_, fun j hj => ?_, fun j hj hj2 => ?_⟩
  ·rw [hrow, Jpl hq]
   by_cases h1 : q = 1
   ·subst h1
    exact J4g (x := rowK 7 (numB 114 0) 1) rfl
   ·exact J4M h1
  ·rw [hrow]
   exact J4M (by omega)
  ·obtain rfl : j = 0 := by omega
   refine ⟨4, ?_, by decide⟩
   show J30 ([] ++ [_]) _ = _
   rw [JnK]
   show (if (numB 114 0 == numB 114 0) = true then _ else _) = _
   rw [if_pos (Joy.2 rfl)]
   rfl
  ·show J30 ([] ++ [_]) _ = _
   rw [JnK]
   show (if (numB 114 j == numB 114 0) = true then _ else _) = _
   rw [if_neg fun h9 => by
    have := JlV (by omega) (by omega) (Joy.1 h9)
    omega]
theorem JpG (hr : r < 64) : ∃ s, goN (J0o (bigN r c)) (bigN r c).length 0 (s0N (bigN r c)) = (0, (bigN r c).length, s) ∧ s.rows = finN r c ∧ s.rules = (List.range (r + 1)).map (blkZ c) ∧ s.miss = ((4 + r * (c + 2) + 1 : Nat) : Int) := by
 obtain ⟨s1, e1, i1⟩ := Jp8 (r := r) (c := c) hr
 obtain ⟨s2, e2, i2⟩ := JkK (E := J0o (bigN r c)) (I := fun i s => BigI r c i (4 + (c + 2) * i) s) (sz := c + 2) (p0 := 4) (c := r) (Jpd hr) r s1 (Nat.le_refl _) i1
 rw [JnI]
 have a1 := e1 (r * (c + 2) + 3)
 rw [show 4 + (r * (c + 2) + 3) = 7 + r * (c + 2) by omega] at a1
 have a2 := e2 3
 rw [Nat.mul_comm (c + 2) r] at a2 i2
 rw [a1, a2]
 have hM : ∀ j, (bigN r c)[4 + r * (c + 2) + j]? = (itM r)[j]? := fun j => JnW
 have hN : ∀ j, (finN r c)[4 + r * (c + 2) + j]? = (itMn r)[j]? := fun j => JpB
 have hbl := JnI (r := r) (c := c)
 have hfl := Jpk (r := r) (c := c)
 generalize hp : 4 + r * (c + 2) = p at *
 have m0 := hM 0; have m1 := hM 1; have m2 := hM 2
 rw [Nat.add_zero] at m0
 have hx : s2.rows[p]? = some (rowK 10 ByteArray.empty 1) := (i2.later _ (Nat.le_refl _)).trans m0
 have st := JoG (E := J0o (bigN r c)) hx rfl i2.m
 obtain ⟨kn, t1, t2⟩ := i2.th r (Nat.le_refl _)
 obtain ⟨s3, g1, g2, g3, g4, g5, g6, g7⟩ := Joe (E := J0o (bigN r c)) (nm := numB 114 r) (k := (r : Int)) (known := kn) 1 (p + 2) { s2 with miss := (p : Int) + 1 } (fun j hj => by
  rw [show p + 2 + j = p + 2 by omega]
  exact (i2.later _ (by omega)).trans m2) t1 (by omega)
 refine ⟨s3, ?_, ?_, ?_, ?_⟩
 ·rw [JlY (n := 2) st, show (2 : Nat) = 1 + 1 from rfl, Jln 1 1 (p + 1) fun j hj => ⟨rowK 11 ByteArray.empty 1, by
   rw [show p + 1 + j = p + 1 by omega]
   exact (i2.later _ (by omega)).trans m1, rfl, rfl, rfl⟩]
  have := g1 0
  rw [show (1 : Nat) + 0 = 1 from rfl] at this
  rw [show p + 1 + 1 = p + 2 by omega, this]
  show (0, p + 2 + 1, s3) = _
  rw [show p + 2 + 1 = 7 + r * (c + 2) by omega]
 ·apply List.ext_getElem?
  intro q
  by_cases h1 : q < p
  ·rw [g6 q (by omega)]
   exact i2.done q h1
  ·obtain ⟨j, rfl⟩ : ∃ j, q = p + j := ⟨q - p, by omega⟩
   rw [hN j]
   by_cases j0 : j = 0
   ·subst j0
    rw [g6 _ (by omega)]
    exact hx
   by_cases j1 : j = 1
   ·subst j1
    rw [g6 _ (by omega)]
    exact (i2.later _ (by omega)).trans m1
   by_cases j2 : j = 2
   ·subst j2
    have := g7 0 (by omega)
    rw [Nat.add_zero] at this
    exact this
   ·rw [g6 _ (by omega)]
    rw [show ({ s2 with miss := (p : Int) + 1 } : StN).rows[p + j]? = none from (i2.later _ (by omega)).trans (by rw [hM j]; exact List.getElem?_eq_none (by show 3 ≤ j; omega))]
    exact (List.getElem?_eq_none (by show 3 ≤ j; omega)).symm
 ·rw [g2]
  exact i2.u
 ·rw [g3]
  show (p : Int) + 1 = _
  omega
end
def Joo (b : Int) : Nat → Int → Int
 | 0, n => n
 | c + 1, n => Joo b c (J2I (J2I n 1) b)
def bigS (c : Nat) : Nat → Int
 | 0 => J2I (J2I 0 1) 1
 | j + 1 => Joo (bigS c j) c (J2I 0 1)
def bigX (r c : Nat) : Int := J2I (J2I (J2I 0 1) 1) (bigS c r)
theorem JnP {S : List Int} {nm : ByteArray} {k b : Int} (hb : J5y S k = b) : ∀ (c : Nat) (n : Int), J2j S (List.replicate c (JnO 22 nm k 0)) n = Joo b c n
 | 0, n => rfl
 | c + 1, n => by
  rw [List.replicate_succ]
  show J2j S (List.replicate c _) (if (22 : Int) = 22 then J2I (J2I n 1) (J5y S k) else J2I n 1) = _
  rw [if_pos rfl, hb]
  exact JnP hb c _
theorem JoS {b : Int} (hb : 0 ≤ b ∧ b ≤ 4611686018427387904) : ∀ (c : Nat) (n : Int), 0 ≤ n → n ≤ 4611686018427387904 → 0 ≤ Joo b c n ∧ Joo b c n ≤ 4611686018427387904
 | 0, n, h1, h2 => ⟨h1, h2⟩
 | c + 1, n, h1, h2 => by
  have p1 := J3O (a := n) (b := 1) h1 (by omega) (by omega)
  have p2 := J3O p1.1 hb.1 hb.2
  exact JoS hb c _ p2.1 p2.2
theorem Jod {c : Nat} : ∀ j, 0 ≤ bigS c j ∧ bigS c j ≤ 4611686018427387904
 | 0 => (by decide : (0 : Int) ≤ J2I (J2I 0 1) 1 ∧ J2I (J2I 0 1) 1 ≤ 4611686018427387904)
 | j + 1 => JoS (Jod j) c _ (by decide) (by decide)
theorem JpA {L seg : List RowN} {p q : Nat} (h : ∀ j, j < seg.length → L[p + j]? = seg[j]?) (hq : q = p + seg.length) : (L.drop p).take (q - p) = seg := by
 apply List.ext_getElem?
 intro j
 by_cases hj : j < seg.length
 ·rw [List.getElem?_take_of_lt (by omega), List.getElem?_drop]
  exact h j hj
 ·rw [List.getElem?_eq_none (by rw [List.length_take]; omega), List.getElem?_eq_none (by omega)]
section
variable {r c : Nat} {S : List Int}
theorem Jon {row q : Nat} {seg : List RowN} (hrow : row < (bigN r c).length) (hq : endN (bigN r c) row = q) (h : ∀ j, j < seg.length → (finN r c)[row + j]? = seg[j]?) (hl : q = row + seg.length) : cAt (finN r c) (J0o (bigN r c)) S row = J2j S seg 0 := by
 unfold cAt
 rw [J2B hrow, hq]
 show J2j S (((finN r c).drop row).take ((((q : Nat) : Int)).toNat - row)) 0 = _
 rw [Int.toNat_natCast, JpA h hl]
theorem JpN (hr : r < 70) : cAt (finN r c) (J0o (bigN r c)) S 2 = bigS c 0 := by
 have hlen := JnI (r := r) (c := c)
 rw [Jon (seg := [rowK 11 ByteArray.empty 1, rowK 23 ByteArray.empty 0]) (by rw [hlen]; omega) (JnL hr).2.1 (fun j hj => by
  have hj' : j < 2 := hj
  have hc : j = 0 ∨ j = 1 := by omega
  rcases hc with rfl | rfl <;> rfl) rfl]
 rfl
theorem JpO {i : Nat} (hi : i < r) (hr : r < 70) (hS : J5y S i = bigS c i) : cAt (finN r c) (J0o (bigN r c)) S (4 + i * (c + 2) + 1) = bigS c (i + 1) := by
 have hlen := JnI (r := r) (c := c)
 have hle : i * (c + 2) + (c + 2) ≤ r * (c + 2) := by
  have := Nat.mul_le_mul_right (c + 2) hi
  rw [Nat.succ_mul] at this
  exact this
 rw [Jon (seg := rowK 11 ByteArray.empty c :: List.replicate c (JnO 22 (numB 114 i) i 0)) (by rw [hlen]; omega) ((JnL hr).2.2.1 i hi).2 (fun j hj => by
  rw [List.length_cons, List.length_replicate] at hj
  rw [show 4 + i * (c + 2) + 1 + j = 4 + i * (c + 2) + (1 + j) by omega, Jpw hi (by omega), show 1 + j = j + 1 by omega]
  rfl) (by rw [List.length_cons, List.length_replicate, Nat.succ_mul]; omega)]
 show J2j S (List.replicate c (JnO 22 (numB 114 i) i 0)) (J2I 0 1) = _
 exact JnP hS c _
theorem Jpy (hr : r < 70) (hS : J5y S r = bigS c r) : cAt (finN r c) (J0o (bigN r c)) S (4 + r * (c + 2) + 1) = bigX r c := by
 have hlen := JnI (r := r) (c := c)
 rw [Jon (seg := [rowK 11 ByteArray.empty 1, JnO 22 (numB 114 r) r 0]) (by rw [hlen]; omega) (JnL hr).2.2.2 (fun j hj => by
  rw [show 4 + r * (c + 2) + 1 + j = 4 + r * (c + 2) + (1 + j) by omega, JpB, show 1 + j = j + 1 by omega]
  rfl) (by show _ = _ + 2; omega)]
 show (if (22 : Int) = 22 then J2I (J2I (J2I 0 1) 1) (J5y S r) else J2I (J2I 0 1) 1) = _
 rw [if_pos rfl, hS]
 rfl
theorem JoA (hr : r < 70) : ∀ (k i : Nat) (S : List Int), i + k = r + 1 → S.length = r + 1 → (∀ j, j < i → S[j]? = some (bigS c j)) → ∀ j, j < r + 1 → (J8r (finN r c) (J0o (bigN r c)) ((List.range' i k).map (blkZ c)) i S)[j]? = some (bigS c j)
 | 0, i, S, hik, _, h, j, hj => h j (by omega)
 | k + 1, i, S, hik, hl, h, j, hj => by
  rw [List.range'_succ, List.map_cons]
  show (J8r _ _ ((List.range' (i + 1) k).map (blkZ c)) (i + 1) (S.set i (cAt (finN r c) (J0o (bigN r c)) S (blkZ c i).toNat)))[j]? = _
  have hc : cAt (finN r c) (J0o (bigN r c)) S (blkZ c i).toNat = bigS c i := by
   by_cases h0 : i = 0
   ·subst h0
    exact JpN hr
   ·obtain ⟨m, rfl⟩ : ∃ m, i = m + 1 := ⟨i - 1, by omega⟩
    have e : (blkZ c (m + 1)).toNat = 4 + m * (c + 2) + 1 := by
     unfold blkZ
     rw [if_neg (by omega), Int.toNat_natCast, Nat.add_sub_cancel]
    rw [e]
    refine JpO (by omega) hr ?_
    unfold J5y
    rw [Int.toNat_natCast, h m (by omega)]
    rfl
  rw [hc]
  refine JoA hr k (i + 1) _ (by omega) (by rw [List.length_set]; exact hl) (fun q hq => ?_) j hj
  rw [List.getElem?_set]
  by_cases hqi : i = q
  ·subst hqi
   rw [if_pos rfl, if_pos (by omega)]
  ·rw [if_neg hqi]
   exact h q (by omega)
theorem Jo3 {rows : List RowN} {E S : List Int} : ∀ (xs ys : List RowN) (a : Nat) (n : Int), (∀ x ∈ xs, J0E x.kind = false) → J5r rows E S (xs ++ ys) a n = J5r rows E S ys (a + xs.length) n
 | [], ys, a, n, _ => rfl
 | x :: xs, ys, a, n, h => by
  have hx := h x (by simp)
  show (if J0E x.kind = false then J5r rows E S (xs ++ ys) (a + 1) n else _) = _
  rw [if_pos hx, Jo3 xs ys (a + 1) n fun y hy => h y (by simp [hy]), List.length_cons, show a + 1 + xs.length = a + (xs.length + 1) by omega]
theorem JpK : ∀ x ∈ preN r c, J0E x.kind = false := fun x hx => by
 unfold preN at hx
 simp only [List.mem_cons, List.mem_append, it0, List.not_mem_nil, or_false, List.mem_flatMap, List.mem_range] at hx
 rcases hx with rfl | (rfl | rfl | rfl) | ⟨i, _, hx⟩
 ·rfl
 ·rfl
 ·rfl
 ·rfl
 ·unfold itCn at hx
  simp only [List.mem_cons, List.mem_replicate] at hx
  rcases hx with rfl | rfl | ⟨_, rfl⟩ <;> rfl
theorem JoB (hr : r < 70) : ∀ j, j < r + 1 → (J42 (finN r c) (J0o (bigN r c)) ((List.range (r + 1)).map (blkZ c)))[j]? = some (bigS c j) := fun j hj => by
 unfold J42
 rw [List.range_eq_range']
 exact JoA hr (r + 1) 0 _ (by omega) (by rw [List.length_replicate, List.length_map, List.length_range']) (fun j hj => by omega) j hj
theorem JoN (hr : r < 70) : J2K (finN r c) (J0o (bigN r c)) ((List.range (r + 1)).map (blkZ c)) = if J2I 0 (bigX r c) > 16384 then ((4 + r * (c + 2) : Nat) : Int) else -1 := by
 have hs : J5y (J42 (finN r c) (J0o (bigN r c)) ((List.range (r + 1)).map (blkZ c))) r = bigS c r := by
  unfold J5y
  rw [Int.toNat_natCast, JoB hr r (by omega)]
  rfl
 unfold J2K
 have hm := Jpy hr hs
 generalize J42 (finN r c) (J0o (bigN r c)) ((List.range (r + 1)).map (blkZ c)) = S at *
 have e : J5r (finN r c) (J0o (bigN r c)) S (finN r c) 0 0 = J5r (finN r c) (J0o (bigN r c)) S (itMn r) (4 + r * (c + 2)) 0 := by
  conv => lhs; arg 4; unfold finN
  rw [Jo3 _ _ _ _ JpK, JnS, Nat.zero_add]
 rw [e]
 show (if J2I 0 (cAt (finN r c) (J0o (bigN r c)) S (4 + r * (c + 2) + 1)) > 16384 then ((4 + r * (c + 2) : Nat) : Int) else -1) = _
 rw [hm]
theorem Jpm : 0 ≤ bigX r c ∧ bigX r c ≤ 4611686018427387904 := by
 have h := Jod (c := c) r
 exact J3O (by decide) h.1 h.2
theorem Jpj (hr : r < 64) : (bigX r c > 16384 → (resN (bigN r c)).1 = (34, ((4 + r * (c + 2) : Nat) : Int))) ∧
  (bigX r c ≤ 16384 → (resN (bigN r c)).1 = (0, 0) ∧ (resN (bigN r c)).2.miss = ((4 + r * (c + 2) + 1 : Nat) : Int) ∧ JnM (bigN r c) (4 + r * (c + 2) + 1) = bigX r c) := by
 obtain ⟨s, h1, h2, h3, h4⟩ := JpG (r := r) (c := c) hr
 have hl := JoN (r := r) (c := c) (by omega)
 have hx := Jpm (r := r) (c := c)
 have h0 : J2I 0 (bigX r c) = bigX r c := by
  unfold J2I
  rw [if_neg (by omega), Int.zero_add]
 rw [h0] at hl
 constructor
 ·intro hb
  rw [if_pos hb] at hl
  unfold resN
  rw [Jog (by omega), if_neg (by decide)]
  simp only
  rw [h1, if_neg (fun h => h rfl)]
  simp only
  rw [h2, h3, hl, if_pos (by omega)]
 ·intro hb
  rw [if_neg (by omega)] at hl
  have hres : resN (bigN r c) = ((0, 0), s) := by
   unfold resN
   rw [Jog (by omega), if_neg (by decide)]
   simp only
   rw [h1, if_neg (fun h => h rfl)]
   simp only
   rw [h2, h3, hl, if_neg (by decide)]
  refine ⟨by rw [hres], by rw [hres]; exact h4, ?_⟩
  unfold JnM
  rw [hres]
  simp only
  rw [h2, h3]
  refine Jpy (by omega) ?_
  unfold J5y
  rw [Int.toNat_natCast, JoB (by omega) r (by omega)]
  rfl
end
def lawI (b : Int) : Nat → Int → Int
 | 0, n => n
 | c + 1, n => lawI b c (n + 1 + b)
def capN (n : Int) : Int := if n > 1125899906842624 then 1125899906842624 else n
def lawS (c : Nat) : Nat → Int
 | 0 => 2
 | j + 1 => capN (lawI (lawS c j) c 1)
theorem JoC {b B : Int} (hB : 0 ≤ B ∧ B ≤ 4611686018427387904) (hb : b = capN B) : ∀ (k : Nat) (n m : Int), 0 ≤ n → n ≤ 4611686018427387904 → m ≥ 0 → capN n = capN m → capN (Joo B k n) = capN (lawI b k m)
 | 0, n, m, _, _, _, h => h
 | k + 1, n, m, h1, h2, h3, h => by
  have p1 := J3O (a := n) (b := 1) h1 (by omega) (by omega)
  have p2 := J3O p1.1 hB.1 hB.2
  refine JoC hB hb k _ _ p2.1 p2.2 ?_ ?_
  ·have : 0 ≤ b := by rw [hb]; unfold capN; split <;> omega
   omega
  ·rw [hb]
   revert h
   unfold J2I capN
   split <;> split <;> split <;> split <;> intro h <;> (repeat' split) <;> omega
theorem Jos {b : Int} (hb : 0 ≤ b ∧ b ≤ 1125899906842624) : ∀ (k : Nat) (n : Int), 0 ≤ n → 0 ≤ lawI b k n ∧ lawI b k n ≤ n + k * 1125899906842625
 | 0, n, h => ⟨h, by show n ≤ _; omega⟩
 | k + 1, n, h => by
  have := Jos hb k (n + 1 + b) (by omega)
  show 0 ≤ lawI b k (n + 1 + b) ∧ lawI b k (n + 1 + b) ≤ _
  omega
theorem JoL {c : Nat} : ∀ j, 0 ≤ lawS c j ∧ lawS c j ≤ 1125899906842624
 | 0 => (by decide : (0 : Int) ≤ 2 ∧ (2 : Int) ≤ 1125899906842624)
 | j + 1 => by
  have h1 := (Jos (JoL (c := c) j) c 1 (by decide)).1
  have h2 : lawS c (j + 1) = capN (lawI (lawS c j) c 1) := rfl
  rw [h2]
  unfold capN
  split <;> omega
theorem JoY {c : Nat} : ∀ j, lawS c j = capN (bigS c j)
 | 0 => rfl
 | j + 1 => by
  show capN (lawI (lawS c j) c 1) = capN (Joo (bigS c j) c (J2I 0 1))
  exact (JoC (Jod j) (JoY j) c (J2I 0 1) 1 (by decide) (by decide) (by decide) rfl).symm
theorem JpQ {r c : Nat} : (lawS c r + 2 > 16384 ↔ bigX r c > 16384) ∧ (bigX r c ≤ 16384 → lawS c r + 2 = bigX r c) := by
 have h := Jod (c := c) r
 rw [JoY]
 unfold bigX
 have e : J2I (J2I 0 1) 1 = 2 := by decide
 rw [e]
 unfold capN J2I
 split <;> split <;> constructor <;> (try constructor) <;> omega
theorem JlG {call : J0r} {N : Nat} {h : SHeap} {a m : Int} (hm : 0 < m ∧ m < 1099511627776) : J0L Tryd.prog call N 25 [iv a, iv m] h = some (iv (a % m), h) := by
 refine J1m Tryd.func25 rfl (by simp [Tryd.f25]) ?_
 have hr : Tryd.f25.results.toList = [.tmp 4] := rfl
 have h1 := Jjy (P := Tryd.prog) (t := 3) (x := .tmp 6) (y := .tmp 7) (k := .i64) (a := a) (show m ≠ 0 by omega)
 have h2 := Int.tmod_add_mul_tdiv a m
 have h3 := Int.emod_add_mul_ediv a m
 have h4 := Int.emod_nonneg a (show m ≠ 0 by omega)
 have h5 := Int.emod_lt_of_pos a hm.1
 have h6 := Int.tmod_lt_of_pos a hm.1
 have h7 : -m < a.tmod m := by
  have := Int.tmod_lt_of_pos (-a) hm.1
  rw [Int.neg_tmod] at this
  omega
 have h8 : (a - a.tmod m) % m = 0 := by rw [show a - a.tmod m = m * (a.tdiv m) by omega]; exact Int.mul_emod_right _ _
 have h9 : a % m = (a.tmod m) % m := by
  have := Int.emod_emod_of_dvd a (Int.dvd_refl m)
  have e := Int.add_emod (a - a.tmod m) (a.tmod m) m
  rw [Int.sub_add_cancel, h8, Int.zero_add, Int.emod_emod] at e
  exact e
 cases d : decide (a.tmod m < 0) with
 | true =>
  have d' := of_decide_eq_true d
  have w : IntKind.i64.wrap (a.tmod m + m) = a % m := by
   rw [J0s (by omega) (by omega), h9, ← Int.add_emod_right, Int.emod_eq_of_lt (by omega) (by omega)]
  simp only [evC, seval, ↓evP, hr, h1, d, w]
 | false =>
  have d' := of_decide_eq_false d
  have w : a.tmod m = a % m := by rw [h9, Int.emod_eq_of_lt (by omega) (by omega)]
  rw [w] at d h1
  simp only [evC, seval, ↓evP, hr, h1, d]
theorem Jla {n : Nat} {h : SHeap} {a m : Int} (hm : 0 < m ∧ m < 1099511627776) (hn : 0 < n) : J0T n 25 [iv a, iv m] h = some (iv (a % m), h) := by
 obtain ⟨n, rfl⟩ : ∃ j, n = j + 1 := ⟨n - 1, by omega⟩
 exact J6r (J13 ⟨rfl, rfl, rfl⟩) rfl (JlG hm)
theorem J0p.put {lo : Nat} {h : SHeap} {v : Value} {n w : Nat} {cs : List Value} (hc : J0p lo h v n w cs) {id q : Nat} {R : List Value} {ty : TypeId} {g : Bool} {a b : Int} (hg : h.get id = .row R ty g false) (hid : id < h.next) (hq : R[q]? = some (iv a)) (hno : ∀ x ∈ cs, ∀ c, x ≠ iv c) :
  J0p lo (h.put id (.row (R.set q (iv b)) ty g false)) v n w cs := by
 obtain ⟨hl, ad, c, rfl, h1 | ⟨i, off, row, ty', g', ro, rfl, h1, h2, h3, h4⟩⟩ := hc
 ·exact ⟨hl, _, _, rfl, .inl h1⟩
 ·by_cases hi : i = id
  ·subst hi
   rw [hg] at h1
   cases h1
   refine ⟨hl, _, _, rfl, .inr ⟨i, off, _, _, _, _, rfl, J0b rfl hid, h2, ?_, h4⟩⟩
   rw [← h3]
   apply List.ext_getElem?
   intro j
   rw [List.getElem?_take, List.getElem?_take]
   split
   ·rename_i hj
    rw [List.getElem?_drop, List.getElem?_drop, List.getElem?_set]
    split
    ·rename_i hqj
     exfalso
     have : cs[j]? = some (iv a) := by rw [← h3, List.getElem?_take_of_lt hj, List.getElem?_drop, ← hqj]; exact hq
     exact hno _ (List.mem_of_getElem? this) a rfl
    ·rfl
   ·rfl
  ·exact ⟨hl, _, _, rfl, .inr ⟨i, off, row, ty', g', ro, rfl, by rw [J05 hid (Ne.symm hi)]; exact h1, h2, h3, h4⟩⟩
theorem J1S.put {lo : Nat} {h : SHeap} {v : Value} {l : List Int} (hc : J1S lo h v l) {id q : Nat} {R : List Value} {ty : TypeId} {g : Bool} {b : Int} (hg : h.get id = .row R ty g false) (hid : id < h.next) :
  ∃ l', l'.length = l.length ∧ J1S lo (h.put id (.row (R.set q (iv b)) ty g false)) v l' := by
 obtain ⟨hl, ad, c, rfl, h1 | ⟨i, off, row, ty', g', ro, rfl, h1, h2, h3, h4⟩⟩ := hc
 ·exact ⟨l, rfl, hl, _, _, rfl, .inl h1⟩
 ·by_cases hi : i = id
  ·subst hi
   rw [hg] at h1
   cases h1
   refine ⟨if off ≤ q then l.set (q - off) b else l, by split <;> simp, ?_⟩
   have hlen : (if off ≤ q then l.set (q - off) b else l).length = l.length := by split <;> simp
   refine ⟨by rw [J1h, Nat.mul_one], _, _, by rw [hlen], .inr ⟨i, off, _, _, _, _, rfl, J0b rfl hid, h2, ?_, h4⟩⟩
   rw [hlen]
   apply List.ext_getElem?
   intro j
   have hj3 : ((R.drop off).take (l.length * 1))[j]? = (ints l)[j]? := by rw [h3]
   rw [List.getElem?_take] at hj3 ⊢
   split
   ·rename_i hj
    rw [if_pos hj, List.getElem?_drop] at hj3
    rw [List.getElem?_drop, List.getElem?_set]
    split
    ·rename_i hqj
     have h7 : off + j < R.length := by
      rcases Nat.lt_or_ge (off + j) R.length with h9 | h9
      ·exact h9
      ·rw [List.getElem?_eq_none h9, J6g, List.getElem?_eq_getElem (by omega)] at hj3
       cases hj3
     rw [if_pos (by omega), J6g, if_pos (by omega), List.getElem?_set, if_pos (by omega), if_pos (by omega)]
     rfl
    ·rename_i hqj
     rw [hj3, J6g, J6g]
     split
     ·rw [List.getElem?_set_ne (by omega)]
     ·rfl
   ·rename_i hj
    rw [List.getElem?_eq_none (by rw [J1h, hlen]; omega)]
  ·exact ⟨l, rfl, hl, _, _, rfl, .inr ⟨i, off, row, ty', g', ro, rfl, by rw [J05 hid (Ne.symm hi)]; exact h1, h2, h3, h4⟩⟩
section
variable {n N : Nat} {h : SHeap} {l : List RowN}
set_option maxHeartbeats 16000000 in
theorem JoH (hok : (resN l).1.1 = 0) {s : StN} (hs : (resN l).2 = s) {vr vq vv vt vu vo : Value} {lo k : Nat} (hp : J3x lo h (.agg #[.string (J52 l), vr, vq, vv, vt, vu, vo, iv s.miss]) (J52 l) s) (hlies : Lies vr s.rows.length)
  (hsl0 : ∀ (lo hi : Nat) (h' : SHeap), (∀ i, i < h.next → h'.get i = h.get i) → h.next ≤ h'.next → lo ≤ hi → hi ≤ s.rows.length → ∃ v', J2M Tryd.prog h' 22 vr (some (iv lo)) (some (iv hi)) none = some v' ∧ J0l h' v' ((s.rows.drop lo).take (hi - lo)))
  (hk : k < s.rows.length) (hlen : l.length ≤ 65536) (hfl : h.floor ≤ h.next) (hg : h.get 0 = J14) (hn0 : 0 < h.next) (hn : 300000 < n) :
  ∃ h', J0L Tryd.prog (J0T n) N 26 [.agg #[.string (J52 l), vr, vq, vv, vt, vu, vo, iv s.miss], iv k] h = some (iv (JnM l k), h') ∧ ∀ i, i < h.next → h'.get i = h.get i := by
 have hsn := (J1z n).2
 refine J1N (R := fun h' => ∀ i, i < h.next → h'.get i = h.get i) Tryd.func26 rfl (by simp [Tryd.f26]) ?_
 have hr : Tryd.f26.results.toList = [.tmp 4] := rfl
 obtain ⟨ht, _, _, _, _, hi⟩ := JhO hok
 rw [hs] at hi
 have hw := hi.wf
 have h1 := hi.len; have h2 := hw.q; have h3 := hw.v; have h4 := hw.t; have h5 := hw.u; have h6 := hw.o
 have hsm : JdC s := by unfold JdC; omega
 have htot : Jbg s ≤ 65736 := by unfold Jbg; omega
 obtain ⟨vr', vq', vv', vt', vu', vo', e9, p1, p2, p3, p4, p5, p6⟩ := id hp
 cases e9
 have ca : (Value.agg #[.string (J52 l), vr, vq, vv, vt, vu, vo, iv s.miss]).cells.toList = [.string (J52 l), vr, vq, vv, vt, vu, vo, iv s.miss] := rfl
 have oa := all8 (nm := J52 l) p1 p2 p3 p4 p5 p6
 have gA : (h.push (.row [.string (J52 l), vr, vq, vv, vt, vu, vo, iv s.miss] 30 false false)).get h.next = .row [.string (J52 l), vr, vq, vv, vt, vu, vo, iv s.miss] 30 false false := J0h
 have gO : ∀ i, i < h.next → (h.push (.row [.string (J52 l), vr, vq, vv, vt, vu, vo, iv s.miss] 30 false false)).get i = h.get i := fun i hi => J06 hi
 have nA : (h.push (.row [.string (J52 l), vr, vq, vv, vt, vu, vo, iv s.miss] 30 false false)).next = h.next + 1 := rfl
 have fA : (h.push (.row [.string (J52 l), vr, vq, vv, vt, vu, vo, iv s.miss] 30 false false)).floor = h.floor := rfl
 simp only [evC, seval, ↓evP, rpD, J0X, J2t, ca, oa, sz30]
 generalize h.push (.row [.string (J52 l), vr, vq, vv, vt, vu, vo, iv s.miss] 30 false false) = A at *
 have lA : ldN 8 0 (A.get h.next) = some (.agg #[.string (J52 l), vr, vq, vv, vt, vu, vo, iv s.miss]) := J9E gA rfl
 have x1 : ld1 1 (A.get h.next) = some vr := by rw [gA]; rfl
 have hpA := hp.mono (h' := A) (by omega) fun i _ hi => gO i hi
 have hlies' : ∀ (nm' : ByteArray) (vr' vq' vv' vt' vu' vo' m : Value), Value.agg #[.string (J52 l), vr, vq, vv, vt, vu, vo, iv s.miss] = .agg #[.string nm', vr', vq', vv', vt', vu', vo', m] → Lies vr' s.rows.length := fun nm' a b c d e f m he => by
  cases he
  exact hlies
 have hchk := JnE (n := n) hpA hlies' hsm (by omega) (by omega) (by rw [gO 0 hn0]; exact hg) (by omega) (by omega)
 rw [show JkA (J52 l) s = 0 by rw [← hs]; exact Jnx hok] at hchk
 have len1 : ∀ h' : SHeap, lenS Tryd.prog h' 22 vr = some (iv (s.rows.length : Int)) := fun h' => JfA p1.2 h'
 have c1 : decide ((k : Int) < 0) = false := by simp
 have c2 : decide ((k : Int) ≥ (s.rows.length : Int)) = false := by simp; omega
 simp only [evC, seval, ↓evP, Nat.zero_add, c1, J0y, J0F, x1, len1, c2, J1b, lA, hchk, bne_self_eq_false]
 have hrows : J0l (A.fl (max A.floor A.next)) vr s.rows := p1.1.mono (by rw [J0J]; omega) gO
 obtain ⟨E1, he1, ge1, ne1, fe1, oe1⟩ := Jnf (n := n) ht (Jo5 hi) hrows (by omega) (by omega) (by rw [J0J, JiM]; omega)
 rw [J0J] at he1 ge1 ne1 oe1
 rw [JiM] at fe1
 have hLay := J8n ht (by omega) hi
 have oE : ∀ i, i < h.next → (E1.fl A.floor).get i = h.get i := fun i hi => (oe1 i (by omega)).trans (gO i hi)
 have hsl : ∀ (lo hi : Nat) h', (∀ i, i < (E1.fl A.floor).next → h'.get i = (E1.fl A.floor).get i) → (E1.fl A.floor).next ≤ h'.next → lo ≤ hi → hi ≤ s.rows.length → ∃ v', J2M Tryd.prog h' 22 vr (some (iv lo)) (some (iv hi)) none = some v' ∧ J0l h' v' ((s.rows.drop lo).take (hi - lo)) := fun lo hi h' a1 a2 a3 a4 => by
  rw [J0J] at a1 a2
  exact hsl0 lo hi h' (fun i hi => (a1 i (by omega)).trans (oE i hi)) (by omega) a3 a4
 have p5' : J1S 0 (E1.fl A.floor) vu s.rules := J1S.mono (J1S.weak p5 (Nat.zero_le _)) (by rw [J0J]; omega) fun i _ hi => oE i hi
 have o8 : [.string (J52 l), vr, vq, vv, vt, vu, vo, iv s.miss].all one = true := oa
 obtain ⟨h2', hc2, hCnt, n2, f2, o2⟩ := Jg7 (n := n) (h := E1.fl A.floor) (ce := l.length) (v0 := .string (J52 l)) (v2 := vq) (v3 := vv) (v4 := vt) (v6 := vo) (v7 := iv s.miss) hLay o8 (by rw [J0J, JiM]; omega) (by omega) hsl p5' ge1 (by rw [J0J]; omega)
 rw [J39] at hc2
 have hcnt := Jdw (n := n) hLay hCnt (J6d).1 (J6d).2 (by rw [J0J] at n2; rw [f2, JiM]; omega) hk (by omega)
 rw [J0J] at hcnt
 have hres : JnM l k = cAt s.rows (J0o l) (J42 s.rows (J0o l) s.rules) k := by unfold JnM; rw [hs]
 have hff : h2'.fl A.floor = h2' := by rw [show A.floor = h2'.floor by rw [f2, JiM]]; exact J6L h2'
 have hAlt : (h.next < A.next) = True := by rw [nA]; simp
 rw [hres]
 refine WK.flags (ops := Jol) Jof ?_
 refine WKF.begin ?_
 have FF := And.intro @J0y (And.intro @J0F (And.intro @J1b (And.intro @lA (And.intro @x1 (And.intro @hAlt (And.intro @he1 (And.intro @hc2 (And.intro @hff (And.intro @hcnt @JiM)))))))))
 refine wst hsn 0 (some 19) (.load 30 (.tmp 2)) none ?_
 simp only [rgC, seval, J04, J02, WKFC, rgL, Nat.zero_add, List.toList_toArray, FF]
 refine wst hsn 1 (some 20) (.fieldAddr 30 (.tmp 2) 1) none ?_
 simp only [rgC, seval, J04, J02, WKFC, Nat.zero_add, Nat.zero_add, List.toList_toArray, FF]
 refine wst hsn 2 (some 21) (.load 22 (.tmp 20)) none ?_
 simp only [rgC, seval, J04, J02, WKFC, rgL, Nat.zero_add, List.toList_toArray, FF]
 refine wst hsn 3 (some 22) (.call { callee := .value (.func 49), args := #[.tmp 21], argTypes := #[22] }) none ?_
 simp only [rgC, seval, J04, J02, WKFC, rgK, Nat.zero_add, List.toList_toArray, FF]
 refine wst hsn 4 (some 23) (.call { callee := .value (.func 72), args := #[.tmp 19, .tmp 22], argTypes := #[30, 28] }) none ?_
 simp only [rgC, seval, J04, J02, WKFC, rgK, Nat.zero_add, List.toList_toArray, FF]
 refine wst hsn 5 (some 24) (.move (.tmp 1)) none ?_
 simp only [rgC, seval, J04, J02, WKFC, Nat.zero_add, List.toList_toArray, FF]
 refine wst hsn 6 (some 25) (.call { callee := .value (.tmp 23), args := #[.tmp 24], argTypes := #[3] }) none ?_
 simp only [rgC, seval, J04, J02, WKFC, rgK, Nat.zero_add, List.toList_toArray, FF]
 refine wst hsn 7 (some 4) (.assign (.tmp 25)) none ?_
 simp only [rgC, seval, J04, J02, WKFC, Nat.zero_add, List.toList_toArray, FF]
 refine WKF.done (i := 8) (by kernel_rfl) ?_
 clear FF
 simp only [evC, seval, ↓evP, hr]
 exact fun i hi => (o2 i (by rw [J0J]; omega)).trans (oE i hi)
theorem Jpo (hok : (resN l).1.1 = 0) {s : StN} (hs : (resN l).2 = s) {pv : Value} {lo k : Nat} (hp : OwnS lo h pv (J52 l) s) (hk : k < s.rows.length) (hlen : l.length ≤ 65536) (hfl : h.floor ≤ h.next) (hg : h.get 0 = J14) (hn0 : 0 < h.next) (hn : 300001 < n) :
  J0T n 26 [pv, iv k] h = some (iv (JnM l k), h) := by
 obtain ⟨n, rfl⟩ : ∃ j, n = j + 1 := ⟨n - 1, by omega⟩
 have hpol := hp.pol
 obtain ⟨tag, r, vq, vv, vt, vu, vo, rfl, hP⟩ := hp
 exact J4r (J13 ⟨rfl, rfl, rfl⟩) rfl (JoH (n := n) (N := n) hok hs hpol ⟨r, 0, unk, rfl⟩ (fun lo hi h' ho hx a b => Jcp (by rw [ho r hP.lr.2]; exact hP.rows) (by have := hP.lr.2; omega) a b) hk hlen hfl hg hn0 (by omega))
end
theorem Jm3 {k c : Int} {nm : ByteArray} : J1P Tryd.prog 46 [(0, iv k), (1, .string nm), (4, iv c)] = some (rowV (rowK k nm c)) := by
 have h := J9X
 rw [Tryd.underlying46] at h
 simp only at h
 have hf : flat (.agg #[.int .i64 0, .string ByteArray.empty, .int .i64 0, .int .i64 0, .int .i64 0]) = true := rfl
 simp only [J1P, J40, hf, if_true, Tryd.underlying46, h]
 rfl
section
variable {call : J0r} {N n : Nat} {h : SHeap}
theorem Jm4 {k c : Int} {nm : ByteArray} (hfl : h.floor ≤ h.next) : ∃ h', J0L Tryd.prog call N 28 [iv k, .string nm, iv c] h = some (rowV (rowK k nm c), h') ∧ ∀ i, i < h.next → h'.get i = h.get i := by
 refine J1N (R := fun h' => ∀ i, i < h.next → h'.get i = h.get i) Tryd.func28 rfl (by simp [Tryd.f28]) ?_
 have hr : Tryd.f28.results.toList = [.cell 6 46] := rfl
 have hz : flat (.agg #[.int .i64 0, .string ByteArray.empty, .int .i64 0, .int .i64 0, .int .i64 0]) = true := rfl
 have hzc : (Value.agg #[.int .i64 0, .string ByteArray.empty, .int .i64 0, .int .i64 0, .int .i64 0]).cells.toList = J0e zRow := rfl
 have hst : J0K Tryd.prog (h.push (.row (J0e zRow) 46 false false)) 46 (.pointer (some ⟨h.next, 0, none⟩)) (rowV (rowK k nm c)) = some ((h.push (.row (J0e zRow) 46 false false)).put h.next (.row (J0e (rowK k nm c)) 46 false false)) := JaU (i := 0) (off := 0) (L := [zRow]) rfl J0h (by decide) (by rw [J0i]; exact hfl)
 have lw : ldN 5 0 (((h.push (.row (J0e zRow) 46 false false)).put h.next (.row (J0e (rowK k nm c)) 46 false false)).get h.next) = some (rowV (rowK k nm c)) := by rw [J0b rfl (by rw [J1D]; omega)]; rfl
 have hold : ∀ i, i < h.next → ((h.push (.row (J0e zRow) 46 false false)).put h.next (.row (J0e (rowK k nm c)) 46 false false)).get i = h.get i := fun i hi => by rw [J05 (by rw [J1D]; omega) (by omega), J06 hi]
 generalize hgo : (h.push (.row (J0e zRow) 46 false false)).put h.next (.row (J0e (rowK k nm c)) 46 false false) = G at *
 simp only [evC, seval, ↓evP, hr, J40, hz, hzc, Jm3, hst, J0u, lw]
 exact hold
theorem JkE {k c : Int} {nm : ByteArray} (hfl : h.floor ≤ h.next) (hn : 0 < n) : J0T n 28 [iv k, .string nm, iv c] h = some (rowV (rowK k nm c), h) := by
 obtain ⟨n, rfl⟩ : ∃ j, n = j + 1 := ⟨n - 1, by omega⟩
 exact J4r (J13 ⟨rfl, rfl, rfl⟩) rfl (Jm4 hfl)
end
def Jki (h : SHeap) (lo : Nat) (v : Value) (l : List RowN) : Prop := ∃ id c, v = .slice (some ⟨id, 0, none⟩) l.length c ∧ lo ≤ id ∧ id < h.next ∧ ((c = unk ∧ h.get id = .row (l.flatMap J0e) 46 true false) ∨ (c = l.length ∧ h.get id = .row (l.flatMap J0e) 46 false false))
theorem Jki.rows {h : SHeap} {lo : Nat} {v : Value} {l : List RowN} (hl : Jki h lo v l) : J0l h v l := by
 obtain ⟨id, c, rfl, h1, h2, h3⟩ := hl
 have hg : ∃ g, h.get id = .row (l.flatMap J0e) 46 g false := by rcases h3 with ⟨_, h⟩ | ⟨_, h⟩ <;> exact ⟨_, h⟩
 obtain ⟨g, hg⟩ := hg
 exact ⟨_, _, rfl, .inr ⟨id, 0, _, _, _, _, rfl, hg, h2, fun k r hk => by rw [Nat.zero_add]; exact J2Y hk⟩⟩
theorem JkO {h : SHeap} {lo : Nat} {v : Value} {l xs : List RowN} (hl : Jki h lo v l) (hlo : lo ≤ h.next) (hf : h.floor ≤ lo) (hb : l.length < 10000) (hx : 0 < xs.length) (hb2 : xs.length < 10000) :
  ∃ v' h', J1o Tryd.prog (h.push (.row (xs.flatMap J0e) 46 false false)) 22 v (.slice (some ⟨h.next, 0, none⟩) xs.length xs.length) = some (v', h') ∧ Jki h' lo v' (l ++ xs) ∧ h'.floor = h.floor ∧ h.next ≤ h'.next ∧ ∀ i, i < lo → h'.get i = h.get i := by
 obtain ⟨id, c, rfl, h1, h2, h3⟩ := hl
 have hll := J0N l
 have hxl := J0N xs
 have hu : l.length ≤ unk := by unfold unk; omega
 have hsrc : J16 (h.push (.row (xs.flatMap J0e) 46 false false)) 5 xs.length (.slice (some ⟨h.next, 0, none⟩) xs.length xs.length) = some (xs.flatMap J0e) := by
  simp only [J16, J0h, cut, List.drop_zero]
  rw [if_neg (by omega), List.take_of_length_le (by omega), if_pos hxl]
 have hzs : (Value.agg #[.int .i64 0, .string ByteArray.empty, .int .i64 0, .int .i64 0, .int .i64 0]).cells.size = 5 := rfl
 rcases h3 with ⟨rfl, hg⟩ | ⟨rfl, hg⟩
 ·have hg' : (h.push (.row (xs.flatMap J0e) 46 false false)).get id = .row (l.flatMap J0e) 46 true false := by rw [J06 h2]; exact hg
  have hcut : cut (l.flatMap J0e) 0 (l.length * 5) = some (l.flatMap J0e) := by
   simp only [cut, List.drop_zero]
   rw [List.take_of_length_le (by omega), if_pos hll]
  refine ⟨.slice (some ⟨(h.push (.row (xs.flatMap J0e) 46 false false)).next, 0, none⟩) (l.length + xs.length) unk, ((h.push (.row (xs.flatMap J0e) 46 false false)).put id .dead).push (.row (l.flatMap J0e ++ xs.flatMap J0e) 46 true false), ?_, ⟨_, unk, by rw [List.length_append], ?_, ?_, .inl ⟨rfl, ?_⟩⟩, rfl, by show h.next ≤ h.next + 1 + 1; omega, fun i hi => ?_⟩
  ·simp only [J1o, Tryd.underlying22, sz46, by46, J40, hzs, hsrc, hg', hcut]
   have z1 : (decide ((l.length + xs.length) * 48 ≤ 140737488355328) && decide (l.length + xs.length ≤ 140737488355328) && decide ((h.push (.row (xs.flatMap J0e) 46 false false)).floor ≤ id)) = true := by
    rw [J0i, decide_eq_true (show (l.length + xs.length) * 48 ≤ 140737488355328 by omega), decide_eq_true (show l.length + xs.length ≤ 140737488355328 by omega), decide_eq_true (show h.floor ≤ id by omega)]
    rfl
   rw [if_pos (by simp; omega), if_pos (J4y _), if_pos trivial, if_pos z1, if_neg (show ¬ xs.length = 0 by omega), if_pos trivial, if_pos (J4y _)]
  ·show lo ≤ h.next + 1; omega
  ·show h.next + 1 < h.next + 1 + 1; omega
  ·rw [List.flatMap_append]
   exact J0h
  ·rw [J06 (by show i < h.next + 1; omega), J05 (by show id < h.next + 1; omega) (by omega), J06 (by omega)]
 ·have hcut : J16 (h.push (.row (xs.flatMap J0e) 46 false false)) 5 l.length (.slice (some ⟨id, 0, none⟩) l.length l.length) = some (l.flatMap J0e) := by
   by_cases h0 : l.length = 0
   ·rw [List.length_eq_zero_iff.1 h0]
    rfl
   ·simp only [J16, J06 h2, hg, cut, List.drop_zero]
    rw [if_neg h0, List.take_of_length_le (by omega), if_pos hll]
  refine ⟨.slice (some ⟨(h.push (.row (xs.flatMap J0e) 46 false false)).next, 0, none⟩) (l.length + xs.length) unk, (h.push (.row (xs.flatMap J0e) 46 false false)).push (.row (l.flatMap J0e ++ xs.flatMap J0e) 46 true false), ?_, ⟨_, unk, by rw [List.length_append], ?_, ?_, .inl ⟨rfl, ?_⟩⟩, rfl, by show h.next ≤ h.next + 1 + 1; omega, fun i hi => ?_⟩
  ·simp only [J1o, Tryd.underlying22, sz46, by46, J40, hzs, hsrc, hcut]
   rw [if_pos (by simp), if_pos (J4y _), if_neg (by unfold unk; omega), if_neg (by omega), if_pos (by simp only [Bool.and_eq_true, decide_eq_true_eq]; omega)]
  ·show lo ≤ h.next + 1; omega
  ·show h.next + 1 < h.next + 1 + 1; omega
  ·rw [List.flatMap_append]
   exact J0h
  ·rw [J06 (by show i < h.next + 1; omega), J06 (by omega)]
theorem JkZ {h : SHeap} {x y : RowN} : J0Q Tryd.prog h 22 2 [(0, rowV x), (1, rowV y)] = some (.slice (some ⟨h.next, 0, none⟩) 2 2, h.push (.row ([x, y].flatMap J0e) 46 false false)) := by
 simp [J0Q, Tryd.underlying22, sz46, J40, flat, J1i, J0G, J5k, J3e, Go.Sx.lay]
 rfl
theorem Jm5 {h : SHeap} {x y z u : RowN} : J0Q Tryd.prog h 22 4 [(0, rowV x), (1, rowV y), (2, rowV z), (3, rowV u)] = some (.slice (some ⟨h.next, 0, none⟩) 4 4, h.push (.row ([x, y, z, u].flatMap J0e) 46 false false)) := by
 simp [J0Q, Tryd.underlying22, sz46, J40, flat, J1i, J0G, J5k, J3e, Go.Sx.lay]
 rfl
theorem Jls {h : SHeap} {x : RowN} : J0Q Tryd.prog h 22 1 [(0, rowV x)] = some (.slice (some ⟨h.next, 0, none⟩) 1 1, h.push (.row ([x].flatMap J0e) 46 false false)) := by
 simp [J0Q, Tryd.underlying22, sz46, J40, flat, J1i, J0G, J5k, J3e, Go.Sx.lay]
 rfl
section
variable {a m x i : Nat}
end
theorem Jkp {α : Type} {f : Nat → List α} {i : Nat} : (List.range (i + 1)).flatMap f = (List.range i).flatMap f ++ f i := by rw [List.range_succ, List.flatMap_append, List.flatMap_cons, List.flatMap_nil, List.append_nil]
section
variable {n : Nat} {h : SHeap}
end
theorem Jph {h : SHeap} {x y z : RowN} : J0Q Tryd.prog h 22 3 [(0, rowV x), (1, rowV y), (2, rowV z)] = some (.slice (some ⟨h.next, 0, none⟩) 3 3, h.push (.row ([x, y, z].flatMap J0e) 46 false false)) := by
 simp [J0Q, Tryd.underlying22, sz46, J40, flat, J1i, J0G, J5k, J3e, Go.Sx.lay]
 rfl
theorem Joj {b : Int} : ∀ (k : Nat) (n : Int), lawI b (k + 1) n = lawI b k n + 1 + b
 | 0, n => rfl
 | k + 1, n => by
  show lawI b (k + 1) (n + 1 + b) = lawI b k (n + 1 + b) + 1 + b
  exact Joj k _
def hdN (r : Nat) : List RowN := rowK 1 pB ((r + 2 : Nat) : Int) :: it0
theorem Jpz {r c : Nat} : hdN r ++ (List.range r).flatMap (itC c) ++ itM r = bigN r c := by
 unfold hdN bigN
 simp only [List.cons_append, List.append_assoc]
theorem Jo4 {α : Type} {x : α} {k : Nat} : List.replicate (k + 1) x = List.replicate k x ++ [x] := List.replicate_succ'
theorem Jpg {l : List RowN} {lo : Nat} {h : SHeap} {pv : Value} (hok : (resN l).1.1 = 0) (hp : Jlg lo h pv (outN l).1 (outN l).2) : OwnS lo h pv (J52 l) (resN l).2 := by
 rw [JeO hok] at hp
 rcases hp with ⟨_, _, h3⟩ | hp
 ·obtain ⟨ht, _, _, _, _, hi⟩ := JhO hok
  have := ht.pos
  have h4 := hi.len
  have h3' : (resN l).2 = sZ := h3
  rw [h3'] at h4
  have : ([] : List RowN).length = l.length := h4
  simp at this
  omega
 ·exact hp
section
variable {n : Nat} {h : SHeap}
set_option maxHeartbeats 64000000 in
theorem Jop {a b : Int} (hfl : h.floor ≤ h.next) (hg : h.get 0 = J14) (hn0 : 0 < h.next) (hn : 400000 < n) :
  ∃ h', J0L Tryd.prog (Jb4 n) n 7 [iv a, iv b] h = some (.bool true, h') ∧ True := by
 have hsn := (JaT n).2
 refine J1N (R := fun _ => True) Tryd.func7 rfl (by simp [Tryd.f7]) ?_
 have hr : Tryd.f7.results.toList = [.tmp 4] := rfl
 have ra := t_k (n := n) (by decide) (Jla (n := n) (h := h) (a := a) (m := 64) ⟨by decide, by decide⟩ (by omega))
 have rb := t_k (n := n) (by decide) (Jla (n := n) (h := h) (a := b) (m := 5) ⟨by decide, by decide⟩ (by omega))
 obtain ⟨r, hqa, hr64⟩ : ∃ q : Nat, a % 64 = (q : Int) ∧ q < 64 := ⟨(a % 64).toNat, by omega, by omega⟩
 obtain ⟨c, hvb, hc5⟩ : ∃ v : Nat, b % 5 = (v : Int) ∧ v < 5 := ⟨(b % 5).toNat, by omega, by omega⟩
 rw [hqa] at ra
 rw [hvb] at rb
 have w1 : IntKind.i64.wrap (1 + (r : Int)) = ((r + 1 : Nat) : Int) := by rw [J0s (by omega) (by omega)]; omega
 have w2 : IntKind.i64.wrap (((r + 1 : Nat) : Int) + 1) = ((r + 2 : Nat) : Int) := by rw [J0s (by omega) (by omega)]; omega
 have hnum0 := t_k (n := n) (by decide) (Jkm (n := n) (h := h) (c := 114) (k := 0) (by omega) (by omega))
 have hnum0' : Jb4 n 29 [.int .u8 114, iv 0] h = some (.string (numB 114 0), h) := hnum0
 have hrow0 := t_k (n := n) (by decide) (JkE (n := n) (h := h) (k := 1) (c := ((r + 2 : Nat) : Int)) (nm := pB) hfl (by omega))
 have hrow1 := t_k (n := n) (by decide) (JkE (n := n) (h := h) (k := 7) (c := 1) (nm := numB 114 0) hfl (by omega))
 have hrow2 := t_k (n := n) (by decide) (JkE (n := n) (h := h) (k := 11) (c := 1) (nm := ByteArray.empty) hfl (by omega))
 have hrow2' : Jb4 n 28 [iv 11, .string ⟨#[]⟩, iv 1] h = some (rowV (rowK 11 ByteArray.empty 1), h) := hrow2
 have hrow3 := t_k (n := n) (by decide) (JkE (n := n) (h := h) (k := 23) (c := 0) (nm := ByteArray.empty) hfl (by omega))
 have hrow3' : Jb4 n 28 [iv 23, .string ⟨#[]⟩, iv 0] h = some (rowV (rowK 23 ByteArray.empty 0), h) := hrow3
 simp only [evC, seval, ↓evP, ra, rb, w1, w2, hnum0', hrow0, hrow1, hrow2', hrow3', Jm5]
 have gO : ∀ i, i < h.next → (h.push (.row ((hdN r).flatMap J0e) 46 false false)).get i = h.get i := fun i hi => J06 hi
 have hL0 : Jki (h.push (.row ((hdN r).flatMap J0e) 46 false false)) h.next (.slice (some ⟨h.next, 0, none⟩) 4 4) (hdN r) := ⟨h.next, 4, rfl, Nat.le_refl _, by rw [J1D]; omega, .inr ⟨rfl, J0h⟩⟩
 have nO : (h.push (.row ((hdN r).flatMap J0e) 46 false false)).next = h.next + 1 := rfl
 have fO : (h.push (.row ((hdN r).flatMap J0e) 46 false false)).floor = h.floor := rfl
 change WK _ _ _ _ ⟨_, h.push (.row ((hdN r).flatMap J0e) 46 false false)⟩ _
 generalize h.push (.row ((hdN r).flatMap J0e) 46 false false) = G0 at *
 have hdl : (hdN r).length = 4 := rfl
 have hfm : ∀ i, ((List.range i).flatMap (itC c)).length = i * (c + 2) := fun i => by rw [Jk7 (w := c + 2) JnQ, List.length_range]
 refine WK.loop (fun i s' => s'.T.get 0 = iv ((r + 1 : Nat) : Int) ∧ s'.T.get 1 = iv c ∧ s'.T.get 6 = iv (lawS c i) ∧ s'.T.get 7 = iv ((i + 1 : Nat) : Int) ∧ i ≤ r ∧ (∃ w, s'.T.get 5 = w ∧ Jki s'.h h.next w (hdN r ++ (List.range i).flatMap (itC c))) ∧ h.next ≤ s'.h.next ∧ s'.h.floor = h.floor ∧ ∀ j, j < h.next → s'.h.get j = h.get j) r (by omega) ?_ ?_
 ·exact ⟨by simp only [evC, seval, ↓evP, rpC], by simp only [evC, seval, ↓evP, rpC], by simp only [evC, seval, ↓evP, rpC]; rfl, by simp only [evC, seval, ↓evP, rpC], by omega, ⟨.slice (some ⟨h.next, 0, none⟩) 4 4, by simp only [evC, seval, ↓evP, rpC], by simpa using hL0⟩, by show h.next ≤ G0.next; omega, fO, gO⟩
 rintro i ⟨T1, G1⟩ hi1 ⟨t0, t1, t6, t7, hil, ⟨w, t5, hL⟩, m1, m2, m3⟩
 simp only at t0 t1 t6 t7 t5 hL m1 m2 m3
 have hib : i * (c + 2) ≤ 63 * 6 := Nat.mul_le_mul (by omega) (by omega)
 have hll : (hdN r ++ (List.range i).flatMap (itC c)).length = 4 + i * (c + 2) := by rw [List.length_append, hdl, hfm]
 have hsb := JoL (c := c) i
 by_cases hlt : i < r
 ·have c1 : decide (((i + 1 : Nat) : Int) < ((r + 1 : Nat) : Int)) = true := by simp; omega
  have hnum := t_k (n := n) (by decide) (Jkm (n := n) (h := G1) (c := 114) (k := i + 1) (by omega) (by omega))
  have hr1 := t_k (n := n) (by decide) (JkE (n := n) (h := G1) (k := 7) (c := 1) (nm := numB 114 (i + 1)) (by omega) (by omega))
  have hr2 := t_k (n := n) (by decide) (JkE (n := n) (h := G1) (k := 11) (c := (c : Int)) (nm := ByteArray.empty) (by omega) (by omega))
  have hr2' : Jb4 n 28 [iv 11, .string ⟨#[]⟩, iv c] G1 = some (rowV (rowK 11 ByteArray.empty c), G1) := hr2
  obtain ⟨w', H, happ, hL', fH, nH, oH⟩ := JkO (xs := [rowK 7 (numB 114 (i + 1)) 1, rowK 11 ByteArray.empty c]) hL m1 (by omega) (by rw [hll]; omega) (by show 0 < 2; decide) (by show 2 < 10000; decide)
  have happ' : J1o Tryd.prog (G1.push (.row ([rowK 7 (numB 114 (i + 1)) 1, rowK 11 ByteArray.empty c].flatMap J0e) 46 false false)) 22 w (.slice (some ⟨G1.next, 0, none⟩) 2 2) = some (w', H) := happ
  simp only [evC, seval, ↓evP, t0, t1, t5, t6, t7, c1, hnum, hr1, hr2', JkZ, happ']
  refine WK.loop (fun k s' => s'.T.get 0 = iv ((r + 1 : Nat) : Int) ∧ s'.T.get 1 = iv c ∧ s'.T.get 6 = iv (lawS c i) ∧ s'.T.get 7 = iv ((i + 1 : Nat) : Int) ∧ s'.T.get 8 = iv (lawI (lawS c i) k 1) ∧ s'.T.get 9 = iv k ∧ k ≤ c ∧ (∃ w, s'.T.get 5 = w ∧ Jki s'.h h.next w (hdN r ++ (List.range i).flatMap (itC c) ++ (rowK 7 (numB 114 (i + 1)) 1 :: rowK 11 ByteArray.empty c :: List.replicate k (rowK 22 (numB 114 i) 0)))) ∧ h.next ≤ s'.h.next ∧ s'.h.floor = h.floor ∧ ∀ j, j < h.next → s'.h.get j = h.get j) c (by omega) ?_ ?_
  ·exact ⟨by simp only [evC, seval, ↓evP, rpC, t0], by simp only [evC, seval, ↓evP, rpC, t1], by simp only [evC, seval, ↓evP, rpC, t6], by simp only [evC, seval, ↓evP, rpC, t7], by simp only [evC, seval, ↓evP, rpC]; rfl, by simp only [evC, seval, ↓evP, rpC], by omega, ⟨w', by simp only [evC, seval, ↓evP, rpC], hL'⟩, by show h.next ≤ H.next; omega, by show H.floor = _; omega, fun j hj => (oH j hj).trans (m3 j hj)⟩
  rintro k ⟨T2, G2⟩ hk1 ⟨t0, t1, t6, t7, t8, t9, hkl, ⟨w2, t5, hL2⟩, m1, m2, m3⟩
  simp only at t0 t1 t6 t7 t8 t9 t5 hL2 m1 m2 m3
  have hnb := Jos hsb k 1 (by decide)
  by_cases hlk : k < c
  ·have c2 : decide ((k : Int) < (c : Int)) = true := by simp; omega
   have hnum := t_k (n := n) (by decide) (Jkm (n := n) (h := G2) (c := 114) (k := i) (by omega) (by omega))
   have hr3 := t_k (n := n) (by decide) (JkE (n := n) (h := G2) (k := 22) (c := 0) (nm := numB 114 i) (by omega) (by omega))
   obtain ⟨w3, H3, happ3, hL3, fH3, nH3, oH3⟩ := JkO (xs := [rowK 22 (numB 114 i) 0]) hL2 m1 (by omega) (by rw [List.length_append, hll, List.length_cons, List.length_cons, List.length_replicate]; omega) (by show 0 < 1; decide) (by show 1 < 10000; decide)
   have happ3' : J1o Tryd.prog (G2.push (.row ([rowK 22 (numB 114 i) 0].flatMap J0e) 46 false false)) 22 w2 (.slice (some ⟨G2.next, 0, none⟩) 1 1) = some (w3, H3) := happ3
   have w4 : IntKind.i64.wrap (((i + 1 : Nat) : Int) - 1) = (i : Int) := by rw [J0s (by omega) (by omega)]; omega
   have w5 : IntKind.i64.wrap (lawI (lawS c i) k 1 + 1) = lawI (lawS c i) k 1 + 1 := J0s (by omega) (by omega)
   have w6 : IntKind.i64.wrap (lawI (lawS c i) k 1 + 1 + lawS c i) = lawI (lawS c i) (k + 1) 1 := by rw [Joj]; exact J0s (by omega) (by omega)
   have w7 : IntKind.i64.wrap ((k : Int) + 1) = ((k + 1 : Nat) : Int) := J0s (by omega) (by omega)
   simp only [evC, seval, ↓evP, t0, t1, t5, t6, t7, t8, t9, c2, w4, hnum, hr3, Jls, happ3', w5, w6, w7]
   exact ⟨by omega, by omega, by rw [Jo4]; simpa only [List.append_assoc, List.cons_append] using hL3, by omega, by omega, fun j hj => (oH3 j hj).trans (m3 j hj)⟩
  have c2 : decide ((k : Int) < (c : Int)) = false := by simp; omega
  obtain rfl : k = c := by omega
  have w8 : IntKind.i64.wrap (((i + 1 : Nat) : Int) + 1) = ((i + 1 + 1 : Nat) : Int) := J0s (by omega) (by omega)
  have hLn : Jki G2 h.next w2 (hdN r ++ (List.range (i + 1)).flatMap (itC k)) := by
   rw [Jkp, show itC k i = rowK 7 (numB 114 (i + 1)) 1 :: rowK 11 ByteArray.empty k :: List.replicate k (rowK 22 (numB 114 i) 0) from rfl]
   simpa only [List.append_assoc] using hL2
  have hcap : lawS k (i + 1) = capN (lawI (lawS k i) k 1) := rfl
  unfold capN at hcap
  cases c3 : decide (lawI (lawS k i) k 1 > 1125899906842624) with
  | true =>
   rw [if_pos (of_decide_eq_true c3)] at hcap
   simp only [evC, seval, ↓evP, t0, t1, t5, t6, t7, t8, t9, c2, c3, w8]
   exact ⟨by omega, by rw [hcap], by omega, hLn, m1, m2, m3⟩
  | false =>
   rw [if_neg (of_decide_eq_false c3)] at hcap
   simp only [evC, seval, ↓evP, t0, t1, t5, t6, t7, t8, t9, c2, c3, w8]
   exact ⟨by omega, by rw [hcap], by omega, hLn, m1, m2, m3⟩
 have c1 : decide (((i + 1 : Nat) : Int) < ((r + 1 : Nat) : Int)) = false := by simp; omega
 obtain rfl : r = i := by omega
 have hrb : r * (c + 2) ≤ 63 * 6 := hib
 have w9 : IntKind.i64.wrap (((r + 1 : Nat) : Int) - 1) = (r : Int) := by rw [J0s (by omega) (by omega)]; omega
 have hnum := t_k (n := n) (by decide) (Jkm (n := n) (h := G1) (c := 114) (k := r) (by omega) (by omega))
 have hr1 := t_k (n := n) (by decide) (JkE (n := n) (h := G1) (k := 10) (c := 1) (nm := ByteArray.empty) (by omega) (by omega))
 have hr1' : Jb4 n 28 [iv 10, .string ⟨#[]⟩, iv 1] G1 = some (rowV (rowK 10 ByteArray.empty 1), G1) := hr1
 have hr2 := t_k (n := n) (by decide) (JkE (n := n) (h := G1) (k := 11) (c := 1) (nm := ByteArray.empty) (by omega) (by omega))
 have hr2' : Jb4 n 28 [iv 11, .string ⟨#[]⟩, iv 1] G1 = some (rowV (rowK 11 ByteArray.empty 1), G1) := hr2
 have hr3 := t_k (n := n) (by decide) (JkE (n := n) (h := G1) (k := 22) (c := 0) (nm := numB 114 r) (by omega) (by omega))
 obtain ⟨w4, G4, happ, hL4, f4, n4, o4⟩ := JkO (xs := itM r) hL m1 (by omega) (by rw [hll]; omega) (by show 0 < 3; decide) (by show 3 < 10000; decide)
 have happ' : J1o Tryd.prog (G1.push (.row ([rowK 10 ByteArray.empty 1, rowK 11 ByteArray.empty 1, rowK 22 (numB 114 r) 0].flatMap J0e) 46 false false)) 22 w (.slice (some ⟨G1.next, 0, none⟩) 3 3) = some (w4, G4) := happ
 rw [Jpz] at hL4
 have hvL := hL4.rows
 have hlen := JnI (r := r) (c := c)
 have hgG : G4.get 0 = J14 := by rw [o4 0 hn0, m3 0 hn0]; exact hg
 obtain ⟨hres1, hres2⟩ := Jpj (r := r) (c := c) hr64
 obtain ⟨hX1, hX2⟩ := JpQ (r := r) (c := c)
 obtain ⟨v5, h5, hr5, pv, rfl, hpO, f5, n5, o5⟩ := JmO (n := n) (h := G4) (by omega) hgG (by omega) hvL (by omega) (by omega)
 have hr5' := t_k (n := n) (by decide) hr5
 have hpt := hpO.pol
 have lenL : ∀ h', lenS Tryd.prog h' 22 w4 = some (iv ((7 + r * (c + 2) : Nat) : Int)) := fun h' => by rw [← hlen]; exact hvL.len
 have w10 : IntKind.i64.wrap (((7 + r * (c + 2) : Nat) : Int) - 3) = ((4 + r * (c + 2) : Nat) : Int) := by rw [J0s (by omega) (by omega)]; omega
 have w11 : IntKind.i64.wrap (lawS c r + 2) = lawS c r + 2 := J0s (by omega) (by omega)
 generalize hlL : bigN r c = l at *
 obtain ⟨nm, s, hout⟩ : ∃ nm s, outN l = (nm, s) := ⟨_, _, rfl⟩
 rw [hout] at hpt
 simp only at hpt
 obtain ⟨vr, vq, vv, vt, vu, vo, rfl, p1, p2, p3, p4, p5, p6⟩ := hpt
 have oa := all8 (nm := nm) p1 p2 p3 p4 p5 p6
 obtain ⟨⟨hc6, h6⟩, s1, s2, rO, n6, f6, o6⟩ := Jlt (H := h5) (cs := [.string nm, vr, vq, vv, vt, vu, vo, iv s.miss]) (e := (resN l).1.1) (p := (resN l).1.2) rfl oa (by omega)
 simp only at s1 s2 rO n6 f6 o6
 obtain ⟨x0, x1, x2, x3, x4, x5, x6, x7⟩ := Jhw (a := .string nm) (b := vr) (c := vq) (d := vv) (e := vt) (f := vu) (g := vo) (i := iv s.miss) (ty := 30) (x := false) (y := false)
 rw [← rO.1] at x0 x1 x2 x3 x4 x5 x6 x7
 have lP : ldN 8 0 (h6.get h5.next) = some (.agg #[.string nm, vr, vq, vv, vt, vu, vo, iv s.miss]) := J9E rO.1 rfl
 have lF : ldN 2 0 (h6.get (h5.next + 1)) = some (J2k (resN l).1.1 (resN l).1.2) := by rw [rO.2]; rfl
 have zc30 : zPol.cells.toList = [.string ByteArray.empty, .slice none 0 0, .slice none 0 0, .slice none 0 0, .slice none 0 0, .slice none 0 0, .slice none 0 0, iv 0] := rfl
 have zc33 : (J2k 0 0).cells.toList = [iv 0, iv 0] := rfl
 have hg6 : h6.get 0 = J14 := by rw [o6 0 (by omega), o5 0 (by omega)]; exact hgG
 have hhd := JfG (n := n) (h := h6) hg6
 have plen1 := fun h' => JfA p1.2 h'
 by_cases hb : bigX r c > 16384
 ·have hb1 : decide (lawS c r + 2 > 16384) = true := by simp only [decide_eq_true_eq]; exact hX1.2 hb
  have hres := hres1 hb
  rw [hres] at s2 lF hr5'
  have hbad : (resN l).1.1 ≠ 0 := by rw [hres]; exact (by decide : (34 : Int) ≠ 0)
  have hob := hout.symm.trans (Jg8 hbad)
  cases hob
  have z1 : ∀ h' : SHeap, lenS Tryd.prog h' 22 vr = some (iv 0) := fun h' => plen1 h'
  simp only [evC, seval, ↓evP, hr, t0, t1, t5, t6, t7, c1, hr1', hr2', w9, hnum, hr3, Jph, happ', hr5', J5F, J3Y, zc30, J3C, J1t, zc33, J1D, s1, s2, w11, hb1, Nat.zero_add, J2n, lF, lenL, w10, J4G, eq33, BEq.rfl, Bool.and_self, J0y, J0F, x1, z1, hhd]
 ·have hb1 : decide (lawS c r + 2 > 16384) = false := by simp only [decide_eq_false_iff_not]; exact fun h9 => hb (hX1.1 h9)
  obtain ⟨hres, hmiss, hlaid⟩ := hres2 (by omega)
  rw [hres] at s2 lF hr5'
  have hok : (resN l).1.1 = 0 := by rw [hres]
  have hgood := hout.symm.trans (JeO hok)
  obtain ⟨rfl, rfl⟩ : nm = J52 l ∧ s = (resN l).2 := by cases hgood; exact ⟨rfl, rfl⟩
  have hown := (Jpg hok hpO).mono (h' := h6) (by omega) fun i _ hi => o6 i hi
  have hsl : (resN l).2.rows.length = l.length := (JhO hok).2.2.2.2.2.len
  have hlaidc := t_k (n := n) (by decide) (Jpo (n := n) hok rfl hown (k := 4 + r * (c + 2) + 1) (by omega) (by omega) (by omega) hg6 (by omega) (by omega))
  rw [hlaid] at hlaidc
  rw [hmiss] at x7 lP hlaidc
  have e2 : (bigX r c == lawS c r + 2) = true := by rw [hX2 (by omega)]; exact BEq.rfl
  rw [hmiss] at s1
  simp only [evC, seval, ↓evP, hr, t0, t1, t5, t6, t7, c1, hr1', hr2', w9, hnum, hr3, Jph, happ', hmiss, hr5', J5F, J3Y, zc30, J3C, J1t, zc33, J1D, s1, s2, w11, hb1, Nat.zero_add, J2n, lF, J5n, eq33, BEq.rfl, Bool.and_self, J38, J1b, J0m, lP, x7, hlaidc, e2, hhd]
end
end Go.Proofs.YtipekdhneagdbaaDoor
