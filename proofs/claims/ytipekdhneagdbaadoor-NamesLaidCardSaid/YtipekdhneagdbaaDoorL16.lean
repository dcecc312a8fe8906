/- Part 16 of what the claim leans on: 6 texts laid one behind another. -/
import Derived.Test.YtipekdhneagdbaaDoorL15
namespace Go.Proofs.YtipekdhneagdbaaDoor
open Go Go.Sx
set_option linter.unusedSimpArgs false
set_option linter.unusedVariables false
theorem excl {k : Int} (h : J0j k ≠ 0) : J1O k = 0 ∧ J0E k = false := by
 have : k = 2 ∨ k = 3 ∨ k = 4 ∨ k = 5 ∨ k = 7 := by
  unfold J0j at h
  split at h
  ·rename_i h1
   simp only [List.contains_cons, List.contains_nil, Bool.or_false, Bool.or_eq_true, beq_iff_eq] at h1
   omega
  ·split at h
   ·omega
   ·split at h
    ·omega
    ·split at h
     ·omega
     ·exact absurd rfl h
 obtain rfl | rfl | rfl | rfl | rfl := this <;> exact ⟨rfl, rfl⟩
theorem J8t {E : List Int} {at_ : Nat} {s : StN} {x : RowN} (hx : s.rows[at_]? = some x) (hd : J0j x.kind ≠ 0) :
  J31 E at_ s = if J25 x s ≠ 0 then (J25 x s, s) else (0, J0W at_ ((E[at_]?).getD 0) x s) := by
 obtain ⟨hc, he⟩ := excl hd
 unfold J31
 rw [hx]
 simp only
 split
 ·rfl
 ·have hr : (J0W at_ ((E[at_]?).getD 0) x s).rows[at_]? = some { x with n := (cntN s (J0j x.kind) : Int) } := by
   rw [J8O, if_neg hd]
   exact J4g hx
  rw [hr]
  simp only
  have h1 : J1v at_ { x with n := (cntN s (J0j x.kind) : Int) } (J0W at_ ((E[at_]?).getD 0) x s) = 0 := by unfold J1v; rw [if_pos hc]
  have h2 : J0D at_ { x with n := (cntN s (J0j x.kind) : Int) } (J0W at_ ((E[at_]?).getD 0) x s) = J0W at_ ((E[at_]?).getD 0) x s := by unfold J0D; rw [if_pos hc]
  rw [h1, h2, hr, if_neg (by simp)]
  simp only
  have h3 : evE { x with n := (cntN s (J0j x.kind) : Int) } (J0W at_ ((E[at_]?).getD 0) x s) = 0 := by unfold evE; rw [if_pos he]
  have h4 : evS at_ { x with n := (cntN s (J0j x.kind) : Int) } (J0W at_ ((E[at_]?).getD 0) x s) = J0W at_ ((E[at_]?).getD 0) x s := by unfold evS; rw [if_pos he]
  rw [h3, h4, if_neg (by simp)]
theorem J8B {E : List Int} {at_ : Nat} {s : StN} {x : RowN} (hx : s.rows[at_]? = some x) (hd : J0j x.kind = 0) :
  J31 E at_ s = if J1v at_ x s ≠ 0 then (J1v at_ x s, s) else match (J0D at_ x s).rows[at_]? with
   | none => (0, s)
   | some x2 => if evE x2 (J0D at_ x s) ≠ 0 then (evE x2 (J0D at_ x s), s) else (0, evS at_ x2 (J0D at_ x s)) := by
 have h1 : J25 x s = 0 := by unfold J25; rw [if_pos hd]
 have h2 : J0W at_ ((E[at_]?).getD 0) x s = s := by unfold J0W; rw [if_pos hd]
 unfold J31
 rw [hx]
 simp only
 rw [h1, h2, hx, if_neg (by simp)]
 rfl
theorem J6j {at_ : Nat} {s : StN} {x : RowN} (hx : s.rows[at_]? = some x) (hc : J1v at_ x s = 0) :
  ∃ n, (J0D at_ x s).rows[at_]? = some { x with n := n } ∧ (∀ i, i ≠ at_ → (J0D at_ x s).rows[i]? = s.rows[i]?) ∧ (J0D at_ x s).rules = s.rules ∧ (J0D at_ x s).on = s.on ∧ (J0D at_ x s).things = s.things ∧
   ((J1O x.kind = 0 ∧ n = x.n) ∨ ∃ t ∈ s.things, t.kind = J1O x.kind ∧ n = t.num ∧ t.known ≤ at_ ∧ J30 s.things x.name = some t) := by
 unfold J1v at hc
 unfold J0D
 by_cases h0 : J1O x.kind = 0
 ·rw [if_pos h0]
  exact ⟨x.n, hx, fun _ _ => rfl, rfl, rfl, rfl, .inl ⟨h0, rfl⟩⟩
 ·rw [if_neg h0] at hc ⊢
  cases hf : J30 s.things x.name with
  | none => rw [hf] at hc; cases hc
  | some t =>
   rw [hf] at hc
   simp only at hc ⊢
   refine ⟨t.num, J4g hx, fun i hi => J4M hi, trivial, trivial, trivial, .inr ⟨t, J8w hf, ?_, rfl, ?_, rfl⟩⟩
   ·split at hc
    ·cases hc
    ·split at hc
     ·cases hc
     ·rename_i h; simpa using h
   ·split at hc
    ·cases hc
    ·omega
def Jew (l : List RowN) (i : Nat) : Prop := ∃ x, l[i]? = some x ∧ 11 ≤ x.kind
theorem JdM {w k : Int} (hw : 2 ≤ w ∧ w ≤ 7) (h : J1l w k = true) : 11 ≤ k := by
 unfold J1l at h
 rw [if_neg (by omega), if_neg (by omega), if_neg (by omega)] at h
 (repeat' split at h) <;> simp only [beq_iff_eq, Bool.and_eq_true, Bool.or_eq_true, decide_eq_true_eq] at h <;> omega
theorem J7g (k : Int) (j : Nat) : 2 ≤ J0A k j ∧ J0A k j ≤ 7 := by unfold J0A; (repeat' split) <;> omega
theorem Jft {l : List RowN} : ∀ m at_ what, (2 ≤ what ∧ what ≤ 7) → (rowN J09 l m at_ what).2 = true → ∀ i, at_ ≤ i → i < (rowN J09 l m at_ what).1 → Jew l i := by
 intro m
 induction m with
 | zero => intro at_ what _ h; cases h
 | succ m ih =>
  intro at_ what hw
  unfold rowN
  cases hx : l[at_]? with
  | none => intro h; cases h
  | some x =>
   simp only
   split
   ·rename_i hc
    intro h i h1 h2
    rcases Nat.lt_or_ge at_ i with h3 | h3
    ·exact J5C (V := Jew l) (fun k p hk i h1 h2 => ih p (J0A x.kind k) (J7g _ _) hk i h1 h2) x.kids.toNat 0 (at_ + 1) h i h3 h2
    ·have : i = at_ := by omega
     subst this
     exact ⟨x, hx, JdM hw (Bool.and_eq_true_iff.1 hc).1⟩
   ·intro h; cases h
theorem JeQ {l : List RowN} {r q : Nat} {x : RowN} (h : SubT l r q) (hx : l[r]? = some x) (h1 : x.kind ≠ 1) : ∀ i, r < i → i < q → Jew l i := by
 intro i hi hq
 rcases h with ⟨m, what, h⟩ | ⟨rfl, m, h⟩
 ·cases m with
  | zero => cases h
  | succ m =>
   rw [J5l hx] at h
   split at h
   ·have e1 : (J2r (fun k next => rowN J09 l m next (J0A x.kind k)) x.kids.toNat 0 (r + 1)).2 = true := by rw [h]
    have e2 : (J2r (fun k next => rowN J09 l m next (J0A x.kind k)) x.kids.toNat 0 (r + 1)).1 = q := by rw [h]
    exact J5C (V := Jew l) (fun k p hk i h1 h2 => Jft m p (J0A x.kind k) (J7g _ _) hk i h1 h2) x.kids.toNat 0 (r + 1) e1 i hi (by rw [e2]; exact hq)
   ·cases h
 ·rw [J5q hx] at h
  split at h
  ·rename_i hc
   have := (Bool.and_eq_true_iff.1 hc).1
   exact absurd (by simpa [J1l] using this) h1
  ·cases h
structure InvL (l : List RowN) (at_ : Nat) (s : StN) : Prop where
 rul : ∀ (j : Nat) (ru : Int), s.rules[j]? = some ru → ∃ r : Nat, ru = (r : Int) + 1 ∧ r < at_ ∧ ∃ x, l[r]? = some x ∧ x.kind = 7
 inc : ∀ (j j' : Nat) (ru ru' : Int), j < j' → s.rules[j]? = some ru → s.rules[j']? = some ru' → ru < ru'
 th : ∀ t ∈ s.things, t.kind = 4 → 0 ≤ t.num ∧ ∃ r : Nat, s.rules[t.num.toNat]? = some ((r : Int) + 1) ∧ t.known = (endN l r : Int)
 call : ∀ (i : Nat) (x : RowN), i < at_ → s.rows[i]? = some x → x.kind = 22 → ∃ r : Nat, s.rules[x.n.toNat]? = some ((r : Int) + 1) ∧ endN l r ≤ i
theorem JjD (l : List RowN) : InvL l 0 (s0N l) where
 rul := fun j ru h => by simp [s0N] at h
 inc := fun j j' ru ru' _ h => by simp [s0N] at h
 th := fun t h => by simp [s0N] at h
 call := fun i x h => by omega
theorem Jjh {k : Int} (h : J0j k = 4) : k = 7 := by
 unfold J0j at h
 (repeat' split at h) <;> simp_all
theorem Jci {l : List RowN} {at_ : Nat} {s : StN} (ht : J2c l) (hat : at_ < l.length) (hi : InvR l at_ s) (hL : InvL l at_ s) (h0 : (J31 (J0o l) at_ s).1 = 0) : InvL l (at_ + 1) (J31 (J0o l) at_ s).2 := by
 obtain ⟨x, hx⟩ : ∃ x, s.rows[at_]? = some x := ⟨_, List.getElem?_eq_getElem (by rw [hi.len]; exact hat)⟩
 have hxl : l[at_]? = some x := by rw [← hi.later at_ (Nat.le_refl _)]; exact hx
 have hE : ((J0o l)[at_]?).getD 0 = (endN l at_ : Int) := by rw [J2B hat]; rfl
 by_cases hd : J0j x.kind = 0
 ·rw [J8B hx hd] at h0 ⊢
  by_cases hc : J1v at_ x s = 0
  case neg => rw [if_pos hc] at h0; exact absurd h0 hc
  rw [if_neg (by simpa using hc)] at h0 ⊢
  obtain ⟨n, c1, c2, c3, c4, c5, c6⟩ := J6j hx hc
  rw [c1] at h0 ⊢
  simp only at h0 ⊢
  by_cases hv : evE { x with n := n } (J0D at_ x s) = 0
  case neg => rw [if_pos hv] at h0; exact absurd h0 hv
  rw [if_neg (by simpa using hv)]
  have e1 : (evS at_ { x with n := n } (J0D at_ x s)).rows = (J0D at_ x s).rows ∧ (evS at_ { x with n := n } (J0D at_ x s)).rules = s.rules ∧ (evS at_ { x with n := n } (J0D at_ x s)).things = s.things := by
   unfold evS
   split
   ·exact ⟨rfl, c3, c5⟩
   ·split
    ·exact ⟨rfl, c3, c5⟩
    ·exact ⟨rfl, c3, c5⟩
  obtain ⟨e1, e2, e3⟩ := e1
  simp only
  refine ⟨fun j ru h => ?_, fun j j' ru ru' h1 h2 h3 => ?_, fun t h1 h2 => ?_, fun i y h1 h2 h3 => ?_⟩
  ·rw [e2] at h
   obtain ⟨r, r1, r2, r3⟩ := hL.rul j ru h
   exact ⟨r, r1, by omega, r3⟩
  ·rw [e2] at h2 h3
   exact hL.inc j j' ru ru' h1 h2 h3
  ·rw [e3] at h1
   rw [e2]
   exact hL.th t h1 h2
  ·rw [e1] at h2
   rw [e2]
   by_cases hia : i = at_
   ·subst hia
    rw [c1] at h2
    cases h2
    rcases c6 with ⟨h4, _⟩ | ⟨t, t1, t2, t3, t4, _⟩
    ·have h3' : x.kind = 22 := h3
     rw [h3'] at h4
     cases h4
    ·have h3' : x.kind = 22 := h3
     rw [h3'] at t2
     obtain ⟨k1, r, k2, k3⟩ := hL.th t t1 t2
     simp only
     rw [t3]
     exact ⟨r, k2, by omega⟩
   ·rw [c2 i hia] at h2
    exact hL.call i y (by omega) h2 h3
 ·rw [J8t hx hd] at h0 ⊢
  by_cases hc : J25 x s = 0
  case neg => rw [if_pos hc] at h0; exact absurd h0 hc
  rw [if_neg (by simpa using hc)]
  simp only
  have hS : J0W at_ (((J0o l)[at_]?).getD 0) x s = addN at_ (endN l at_) x s := by unfold J0W; rw [if_neg hd, hE]
  rw [hS]
  have hrul : (addN at_ (endN l at_) x s).rules = if J0j x.kind = 4 then s.rules ++ [(at_ : Int) + 1] else s.rules := rfl
  have hth : (addN at_ (endN l at_) x s).things = s.things ++ [⟨x.name, J0j x.kind, cntN s (J0j x.kind), endN l at_⟩] := rfl
  have hrows : (addN at_ (endN l at_) x s).rows = setN s.rows at_ (cntN s (J0j x.kind)) := rfl
  have old : ∀ (j : Nat) (ru : Int), s.rules[j]? = some ru → (addN at_ (endN l at_) x s).rules[j]? = some ru := fun j ru h => by
   rw [hrul]
   split
   ·rw [List.getElem?_append_left (List.getElem?_eq_some_iff.1 h).1]; exact h
   ·exact h
  have new : ∀ (j : Nat) (ru : Int), (addN at_ (endN l at_) x s).rules[j]? = some ru → s.rules[j]? = some ru ∨ (J0j x.kind = 4 ∧ j = s.rules.length ∧ ru = (at_ : Int) + 1) := fun j ru h => by
   rw [hrul] at h
   split at h
   ·rename_i h4
    rcases Nat.lt_or_ge j s.rules.length with h5 | h5
    ·rw [List.getElem?_append_left h5] at h
     exact .inl h
    ·rw [List.getElem?_append_right h5] at h
     have : j - s.rules.length = 0 := by
      rcases Nat.eq_zero_or_pos (j - s.rules.length) with h6 | h6
      ·exact h6
      ·rw [List.getElem?_eq_none (by simp; omega)] at h; cases h
     rw [this] at h
     cases h
     exact .inr ⟨h4, by omega, rfl⟩
   ·exact .inl h
  refine ⟨fun j ru h => ?_, fun j j' ru ru' h1 h2 h3 => ?_, fun t h1 h2 => ?_, fun i y h1 h2 h3 => ?_⟩
  ·rcases new j ru h with h | ⟨h4, _, rfl⟩
   ·obtain ⟨r, r1, r2, r3⟩ := hL.rul j ru h
    exact ⟨r, r1, by omega, r3⟩
   ·exact ⟨at_, rfl, by omega, x, hxl, Jjh h4⟩
  ·rcases new j ru h2 with h2 | ⟨h4, g2, rfl⟩
   ·rcases new j' ru' h3 with h3 | ⟨_, _, rfl⟩
    ·exact hL.inc j j' ru ru' h1 h2 h3
    ·obtain ⟨r, r1, r2, _⟩ := hL.rul j ru h2
     omega
   ·rcases new j' ru' h3 with h3 | ⟨_, g3, _⟩
    ·have := (List.getElem?_eq_some_iff.1 h3).1
     omega
    ·omega
  ·rw [hth] at h1
   rcases List.mem_append.1 h1 with h1 | h1
   ·obtain ⟨a, r, b, c⟩ := hL.th t h1 h2
    exact ⟨a, r, old _ _ b, c⟩
   ·rw [List.mem_singleton.1 h1] at h2 ⊢
    simp only at h2 ⊢
    refine ⟨by omega, at_, ?_, rfl⟩
    rw [h2]
    have : cntN s 4 = s.rules.length := rfl
    rw [this, hrul, if_pos h2, Int.toNat_natCast, List.getElem?_append_right (Nat.le_refl _), Nat.sub_self]
    rfl
  ·rw [hrows] at h2
   by_cases hia : i = at_
   ·subst hia
    rw [J4g hx] at h2
    cases h2
    have h3' : x.kind = 22 := h3
    rw [h3'] at hd
    exact absurd rfl hd
   ·rw [J4M hia] at h2
    obtain ⟨r, r1, r2⟩ := hL.call i y (by omega) h2 h3
    exact ⟨r, old _ _ r1, r2⟩
theorem JdQ {l : List RowN} (ht : J2c l) : ∀ r at_ s, at_ + r = l.length → InvR l at_ s → InvL l at_ s → (goN (J0o l) r at_ s).1 = 0 → InvL l l.length (goN (J0o l) r at_ s).2.2
 | 0, at_, s, hr, _, hi, _ => by
  have : at_ = l.length := by omega
  subst this
  exact hi
 | r + 1, at_, s, hr, hiR, hi, h0 => by
  unfold goN at h0 ⊢
  by_cases h : (J31 (J0o l) at_ s).1 = 0
  ·rw [if_neg (by simpa using h)] at h0 ⊢
   exact JdQ ht r (at_ + 1) _ (by omega) (J6b ht (J3T at_) (by omega) hiR h) (Jci ht (by omega) hiR hi h) h0
  ·rw [if_pos h] at h0
   exact absurd h0 h
theorem JgY {l : List RowN} {s : StN} (ht : J2c l) (hlen : l.length < 1099511627) (hi : InvR l l.length s) (hL : InvL l l.length s) : LayR s.rows (J0o l) s.rules where
 lay := J8n ht hlen hi
 ahead := fun i ru hru x hx h22 => by
  obtain ⟨r, rfl, hr, y, hy, hy7⟩ := hL.rul i ru hru
  have hs := ht.end hr
  obtain ⟨z, hz, _, _, hch⟩ := hs.kids
  rw [hy] at hz
  cases hz
  have hfit := ht.row hy
  have hk1 : 1 ≤ y.kids := by
   have h1 := hfit.2.2.1
   rw [hy7] at h1
   exact h1
  have hle := J2o _ _ _ hch
  have hlt := hs.lt
  have hr1 : r + 1 < l.length := by omega
  obtain ⟨qi, s1, s2⟩ := SubT.cover (endN l r - r) (by omega) hs (r + 1) (by omega) (by omega)
  have hq1 := J5P s1
  have e1 : ((r : Int) + 1).toNat = r + 1 := by omega
  rw [e1] at hx
  unfold blk at hx
  rw [J2B hr1] at hx
  simp only [Option.getD_some, Int.toNat_natCast] at hx
  rw [hq1] at hx
  obtain ⟨d, hd, hxd⟩ := List.getElem_of_mem hx
  rw [List.length_take, List.length_drop] at hd
  have hxa : s.rows[r + 1 + d]? = some x := by
   rw [← hxd, ← List.getElem?_eq_getElem, List.getElem?_take_of_lt (by omega), List.getElem?_drop]
  obtain ⟨rj, c1, c2⟩ := hL.call (r + 1 + d) x (by rw [← hi.len]; exact (List.getElem?_eq_some_iff.1 hxa).1) hxa h22
  have hn0 := (hi.calls _ _ (by rw [← hi.len]; exact (List.getElem?_eq_some_iff.1 hxa).1) hxa h22).1
  have hj : ¬ i ≤ x.n.toNat := by
   intro hij
   obtain ⟨rj', h1, hrj, w, hw, hw7⟩ := hL.rul _ _ c1
   have : rj' = rj := by omega
   subst this
   have hse := (ht.end hrj).lt
   rcases Nat.eq_or_lt_of_le hij with h2 | h2
   ·rw [← h2, hru] at c1
    have : r = rj' := by
     simp only [Option.some.injEq] at c1
     omega
    subst this
    omega
   ·have h3 := hL.inc i x.n.toNat _ _ h2 hru c1
    rcases Nat.lt_or_ge rj' (endN l r) with h4 | h4
    ·obtain ⟨w', hw', h5⟩ := JeQ hs hy (by omega) rj' (by omega) h4
     rw [hw] at hw'
     cases hw'
     omega
    ·omega
  omega
set_option maxRecDepth 100000
section
variable {call : J0r} {N : Nat} {h : SHeap}
theorem Jbq {k : Int} : J0L Tryd.prog call N 87 [iv k] h = some (iv (J3g k), h) := by
 refine J1m Tryd.func87 rfl (by simp [Tryd.f87]) ?_
 have hr : Tryd.f87.results.toList = [.tmp 2] := rfl
 unfold J3g
 by_cases h1 : k = 1
 ·have c1 : (k == 1) = true := by simpa using h1
  rw [if_pos h1]
  simp only [evC, seval, ↓evP, rpC, hr, c1]
 have c1 : (k == 1) = false := by simpa using h1
 rw [if_neg h1]
 by_cases h2 : k = 2
 ·have c2 : (k == 2) = true := by simpa using h2
  rw [if_pos h2]
  simp only [evC, seval, ↓evP, rpC, hr, c1, c2]
 have c2 : (k == 2) = false := by simpa using h2
 rw [if_neg h2]
 by_cases h3 : k = 3
 ·have c3 : (k == 3) = true := by simpa using h3
  rw [if_pos h3]
  simp only [evC, seval, ↓evP, rpC, hr, c1, c2, c3]
 have c3 : (k == 3) = false := by simpa using h3
 rw [if_neg h3]
 simp only [evC, seval, ↓evP, rpC, hr, c1, c2, c3]
theorem Jc6 {k : Int} : J0L Tryd.prog call N 80 [iv k] h = some (iv (J3g k), h) := by
 refine J1m Tryd.func80 rfl (by simp [Tryd.f80]) ?_
 have hr : Tryd.f80.results.toList = [.tmp 2] := rfl
 unfold J3g
 by_cases h1 : k = 1
 ·have c1 : (k == 1) = true := by simpa using h1
  rw [if_pos h1]
  simp only [evC, seval, ↓evP, rpC, hr, c1]
 have c1 : (k == 1) = false := by simpa using h1
 rw [if_neg h1]
 by_cases h2 : k = 2
 ·have c2 : (k == 2) = true := by simpa using h2
  rw [if_pos h2]
  simp only [evC, seval, ↓evP, rpC, hr, c1, c2]
 have c2 : (k == 2) = false := by simpa using h2
 rw [if_neg h2]
 by_cases h3 : k = 3
 ·have c3 : (k == 3) = true := by simpa using h3
  rw [if_pos h3]
  simp only [evC, seval, ↓evP, rpC, hr, c1, c2, c3]
 have c3 : (k == 3) = false := by simpa using h3
 rw [if_neg h3]
 simp only [evC, seval, ↓evP, rpC, hr, c1, c2, c3]
end
theorem Jfh (k : Int) (h : SHeap) : L1 87 [iv k] h = some (iv (J3g k), h) := J0I (J20 rfl rfl) rfl rfl rfl ⟨_, Jbq⟩
theorem Jf8 (k : Int) (h : SHeap) : L1 80 [iv k] h = some (iv (J3g k), h) := J0I (J20 rfl rfl) rfl rfl rfl ⟨_, Jc6⟩
theorem Jgc (k : Int) (h : SHeap) (hk : 1 ≤ k ∧ k ≤ 54) : L0 31 [iv k] h = some (iv (J0j k), h) := J0I rfl rfl rfl rfl (J1I J8g hk)
theorem Jfb (k : Int) (h : SHeap) (hk : 1 ≤ k ∧ k ≤ 54) : L0 32 [iv k] h = some (iv (J1O k), h) := J0I rfl rfl rfl rfl (J1I JbA hk)
theorem Jgw (k : Int) (h : SHeap) (hk : 1 ≤ k ∧ k ≤ 54) : L0 59 [iv k] h = some (.bool (J0E k), h) := J0I rfl rfl rfl rfl (J1I J8q hk)
section
variable {n lo m e r k : Nat} {h : SHeap} {nm : ByteArray} {E : List Int} {s : StN}
theorem JfN {y : ByteArray} {tag : Nat → Nat} {V : Nat → Value} {C : List Int} (hp : MkR h lo m e r k nm E tag V C s) (hth : s.things.length < 100000) (hn : 100005 < n) : J0T n 86 [.pointer (some ⟨m, 0, none⟩), .string y] h = some (iv (J3M s.things y 0), h) := by
 obtain ⟨n, rfl⟩ : ∃ j, n = j + 1 := ⟨n - 1, by omega⟩
 exact J6r (J13 ⟨rfl, rfl, rfl⟩) rfl (JbE hp (by omega) (by omega))
theorem JgC {at_ : Nat} {end_ : Int} {x : RowN} (hp : MkRE h lo m e r k nm E s) (hx : s.rows[at_]? = some x) (hd : J0j x.kind ≠ 0) (hat : at_ < 1099511627776) (hE : E[at_]? = some end_) (he : 0 ≤ end_) (hth : s.things.length < 100000) (hn : 100010 < n) :
  ∃ h', J0T n 57 [.pointer (some ⟨m, 0, none⟩), iv at_, iv (J0j x.kind)] h = some (iv (J25 x s), h') ∧ (AftR h h' lo ∧ (J25 x s = 0 → MkRE h' lo m e r k nm E (J0W at_ end_ x s))) := by
 obtain ⟨n, rfl⟩ : ∃ j, n = j + 1 := ⟨n - 1, by omega⟩
 exact k_wr (J13 ⟨rfl, rfl, rfl⟩) (JbZ hp hx hd hat hE he hth (by omega) (fun y H tag V C hp' => JfN hp' hth (by omega)) fun k h' => J2Z (Jfh k h'))
theorem Jez {at_ : Nat} {x : RowN} (hp : MkRE h lo m e r k nm E s) (hx : s.rows[at_]? = some x) (hd : J1O x.kind ≠ 0) (hat : at_ < 1099511627776) (hth : s.things.length < 100000) (hn : 100010 < n) :
  ∃ h', J0T n 58 [.pointer (some ⟨m, 0, none⟩), iv at_, iv (J1O x.kind)] h = some (iv (J1v at_ x s), h') ∧ (AftR h h' lo ∧ (J1v at_ x s = 0 → MkRE h' lo m e r k nm E (J0D at_ x s))) := by
 obtain ⟨n, rfl⟩ : ∃ j, n = j + 1 := ⟨n - 1, by omega⟩
 exact k_wr (J13 ⟨rfl, rfl, rfl⟩) (J9A hp hx hd hat fun y H tag V C hp' => JfN hp' hth (by omega))
theorem Jf5 {at_ : Nat} {x : RowN} (hp : MkRE h lo m e r k nm E s) (hx : s.rows[at_]? = some x) (hev : J0E x.kind = true) (hat : at_ < 1099511627776) (hxn : x.kind ≠ 10 → 0 ≤ x.n ∧ x.n < s.on.length) (hn : 0 < n) :
  ∃ h', J0T n 60 [.pointer (some ⟨m, 0, none⟩), iv at_] h = some (iv (evE x s), h') ∧ (AftR h h' lo ∧ (evE x s = 0 → MkRE h' lo m e r k nm E (evS at_ x s))) := by
 obtain ⟨n, rfl⟩ : ∃ j, n = j + 1 := ⟨n - 1, by omega⟩
 exact k_wr (J13 ⟨rfl, rfl, rfl⟩) (J9Q hp hx hev hat hxn)
end
section
variable {n : Nat} {h : SHeap} {rows : List RowN} {E rules : List Int} {vr v0 vq vv vt vu vo v7 ve : Value}
theorem JdU {S : List Int} {row le ls : Nat} {vs : Value} (hone : one v0 = true ∧ one vq = true ∧ one vv = true ∧ one vt = true ∧ one vu = true ∧ one vo = true ∧ one v7 = true) (hv : J0l h vr rows) (he : J1S le h ve E) (hS : J1S ls h vs S) (hs : Sums S) (hL : Laying rows E rules) (hrow : row < rows.length) (hn : rows.length + 8 < n)
  (hcalls : ∀ x ∈ blk rows E row, x.kind = 22 → 0 ≤ x.n ∧ x.n < S.length) : J0T n 63 [.agg #[v0, vr, vq, vv, vt, vu, vo, v7], ve, vs, iv (row : Int)] h = some (iv (cAt rows E S row), h) := by
 obtain ⟨n, rfl⟩ : ∃ j, n = j + 1 := ⟨n - 1, by omega⟩
 obtain ⟨q, q1, q2, q3, q4⟩ := hL.end hrow
 have hc : cAt rows E S row = J2j S ((rows.drop row).take (q - row)) 0 := by unfold cAt; rw [q1]; rfl
 rw [hc]
 rw [q4] at hcalls
 exact J4r (J13 ⟨rfl, rfl, rfl⟩) rfl (JbQ hone hv he hS hs q1 q2 q3 (by have := hL.len; omega) (by omega) hcalls fun a b h' hb ha => J2Z (JaD h' hb ha))
theorem JgX {le lu : Nat} (hone : one v0 = true ∧ one vq = true ∧ one vv = true ∧ one vt = true ∧ one vo = true ∧ one v7 = true) (hv : J0l h vr rows) (he : J1S le h ve E) (hu : J1S lu h vu rules) (hL : LayR rows E rules) (hfl : h.floor ≤ h.next) (hn : rows.length + rules.length + 12 < n) :
  ∃ v h', J0T n 61 [.agg #[v0, vr, vq, vv, vt, vu, vo, v7], ve] h = some (v, h') ∧ (J1S h.next h' v (J4Y rows E rules []) ∧ h'.floor = h.floor ∧ h.next ≤ h'.next ∧ ∀ i, i < h.next → h'.get i = h.get i) := by
 obtain ⟨n, rfl⟩ : ∃ j, n = j + 1 := ⟨n - 1, by omega⟩
 refine k_ex (J13 ⟨rfl, rfl, rfl⟩) (Jbz hone hv he hu hL hfl (by omega) fun vs S row H ho hnx hS hSS hrow hc => ?_) fun v h1 hf ho ⟨h2, _, _, _⟩ => ⟨?_, rfl, Nat.le_refl _, fun _ _ => rfl⟩
 ·obtain ⟨a, b, c, d, e, f⟩ := hone
  exact JdU ⟨a, b, c, d, J0p.one hu, e, f⟩ (hv.mono hnx ho) (he.mono hnx fun i _ hi => ho i hi) hS hSS hL.lay hrow (by omega) hc
 ·obtain ⟨hl, a, c, rfl, ⟨h0, rfl⟩ | ⟨id, off, row, ty, g, ro, rfl, g1, g2, g3⟩⟩ := h2
  ·exact ⟨hl, _, _, rfl, .inl ⟨h0, rfl⟩⟩
  ·have : J3m (.slice (some ⟨id, off, none⟩) (J4Y rows E rules []).length c) = false := rfl
   rw [this] at hf
   cases hf
end
def sZ : StN := ⟨[], [], [], [], [], [], 0, []⟩
def J52 (l : List RowN) : ByteArray := match l[0]? with
 | some x => x.name
 | none => ByteArray.empty
noncomputable def outN (l : List RowN) : ByteArray × StN := if (resN l).1.1 ≠ 0 then (ByteArray.empty, sZ) else (J52 l, (resN l).2)
abbrev zPol : Value := .agg #[.string ByteArray.empty, .slice none 0 0, .slice none 0 0, .slice none 0 0, .slice none 0 0, .slice none 0 0, .slice none 0 0, iv 0]
theorem JcV (lo : Nat) (h : SHeap) : J3x lo h zPol ByteArray.empty sZ :=
 ⟨_, _, _, _, _, _, rfl, J3P.of (J0p.nil lo h 5), J0p.nil lo h 2, J0p.nil lo h 1, J0p.nil lo h 1, J0p.nil lo h 1, J0p.nil lo h 1⟩
theorem stW {t : TypeId} {k : Nat} (ht : szOf Tryd.prog t = some k) {h : SHeap} {id : Nat} {vs cs : List Value} {ty : TypeId} {g : Bool} (hg : h.get id = .row cs ty g false) (hl : cs.length = k) (hn : vs.length = k) (ho : vs.all one = true) (hf : h.floor ≤ id) :
  J0K Tryd.prog h t (.pointer (some ⟨id, 0, none⟩)) (.agg vs.toArray) = some (h.put id (.row vs ty g false)) := by
 have hc : (Value.agg vs.toArray).cells = vs.toArray := rfl
 have hlay : Go.Sx.lay cs 0 vs = vs := by
  simp only [Go.Sx.lay, List.take_zero, List.nil_append, Nat.zero_add]
  rw [List.drop_of_length_le (by omega), List.append_nil]
 simp only [J0K, hc, ht, J1q, hg]
 rw [if_pos (by simp [hn]), if_pos (by simp only [ho]; simp; omega), hlay]
theorem J5F : J1w Tryd.prog 30 = some zPol := Jir
theorem J3Y : flat zPol = true := rfl
theorem J82 : J2Q Tryd.prog (match Tryd.prog.underlying 30 with | some (.struct fs) => fs.toList | _ => []) = some [(0, 1), (1, 1), (2, 1), (3, 1), (4, 1), (5, 1), (6, 1), (7, 1)] := by kernel_rfl
theorem J28 : J1P Tryd.prog 30 [] = some zPol := by
 have h := J82
 rw [Tryd.underlying30] at h
 simp only at h
 simp only [J1P, J5F, J3Y, if_true, Tryd.underlying30, h]
 rfl
theorem J2E {nm : ByteArray} {m : Int} : J1P Tryd.prog 30 [(0, .string nm), (7, iv m)] = some (.agg #[.string nm, .slice none 0 0, .slice none 0 0, .slice none 0 0, .slice none 0 0, .slice none 0 0, .slice none 0 0, iv m]) := by
 have h := J82
 rw [Tryd.underlying30] at h
 simp only at h
 simp only [J1P, J5F, J3Y, if_true, Tryd.underlying30, h]
 rfl
theorem JeW : J2Q Tryd.prog (match Tryd.prog.underlying 93 with | some (.struct fs) => fs.toList | _ => []) = some [(0, 8), (8, 1), (9, 1), (10, 5)] := by kernel_rfl
theorem JhX : J1w Tryd.prog 93 = some (.agg #[.string ByteArray.empty, .slice none 0 0, .slice none 0 0, .slice none 0 0, .slice none 0 0, .slice none 0 0, .slice none 0 0, iv 0, .slice none 0 0, .slice none 0 0, iv 0, iv 0, iv 0, iv 0, iv 0]) := by kernel_rfl
abbrev mk0V (nm : ByteArray) (m : Int) (e k : Nat) : Value := .agg #[.string nm, .slice none 0 0, .slice none 0 0, .slice none 0 0, .slice none 0 0, .slice none 0 0, .slice none 0 0, iv m, .slice (some ⟨e, 0, none⟩) k k, .slice none 0 0, iv 0, iv 0, iv 0, iv 0, iv 0]
theorem J3V {nm : ByteArray} {m : Int} {e k : Nat} : J1P Tryd.prog 93 [(0, .agg #[.string nm, .slice none 0 0, .slice none 0 0, .slice none 0 0, .slice none 0 0, .slice none 0 0, .slice none 0 0, iv m]), (1, .slice (some ⟨e, 0, none⟩) k k)] = some (mk0V nm m e k) := by
 have h := JeW
 rw [Tryd.underlying93] at h
 simp only at h
 have hf : flat (.agg #[.string ByteArray.empty, .slice none 0 0, .slice none 0 0, .slice none 0 0, .slice none 0 0, .slice none 0 0, .slice none 0 0, iv 0, .slice none 0 0, .slice none 0 0, iv 0, iv 0, iv 0, iv 0, iv 0]) = true := rfl
 simp only [J1P, JhX, hf, if_true, Tryd.underlying93, h]
 rfl
theorem sz31 : szOf Tryd.prog 31 = some 1 := by kernel_rfl
theorem Jj9 : J2X Tryd.prog 31 = some false := by kernel_rfl
theorem J7G {h : SHeap} {id off : Nat} : J2x Tryd.prog h 31 (.pointer (some ⟨id, off, none⟩)) = ld1 off (h.get id) := J41 Jj9
theorem J6a {id off : Nat} : J08 Tryd.prog 33 (.pointer (some ⟨id, off, none⟩)) 0 = some (.pointer (some ⟨id, off, none⟩)) := by simp [J08, Tryd.underlying33, sz3, sz31, J0q]
theorem Jer {h : SHeap} {l : List RowN} {v : Value} (hv : J0l h v l) (hne : 0 < l.length) (hlen : l.length < 1099511627) :
  J1o Tryd.prog h 22 (.slice none 0 0) v = some (.slice (some ⟨h.next, 0, none⟩) l.length unk, h.push (.row (l.flatMap J0e) 46 true false)) := by
 have hsrc := hv.src
 obtain ⟨a, c, rfl, h1⟩ := hv
 have hzs : (Value.agg #[.int .i64 0, .string ByteArray.empty, .int .i64 0, .int .i64 0, .int .i64 0]).cells.size = 5 := rfl
 have hu : (0 : Nat) ≠ unk := by unfold unk; omega
 have e1 : ¬ (l.length ≤ 0) := by omega
 have e2 : l.length * 48 ≤ 140737488355328 := by omega
 have e3 : l.length ≤ 140737488355328 := by omega
 have h0 : J16 h 5 0 (.slice none 0 0) = some [] := rfl
 simp only [J1o, Tryd.underlying22, sz46, by46, J40, hzs, hsrc, J4y, hu, h0, e1, e2, e3, decide_true, beq_self_eq_true, Bool.and_self, if_true, if_false, Nat.le_refl, Nat.zero_add, Nat.zero_mul, Nat.zero_le, List.nil_append, show (0 < 5) = True by simp]
noncomputable def RR4 : Code := rt (rt (rt (Tryd.f17.body.getD .skip)))
noncomputable def RR5 : Code := rt RR4
noncomputable def RR6 : Code := rt RR5
noncomputable def RR19 : Code := rt RR6
noncomputable def Je9 : Array Oper := J18 Tryd.f17 3
def JhQ : List (Bool × Bool × List Operand) := [(false, true, []), (false, false, []), (false, true, [.tmp 4]), (false, false, [])]
theorem JdL : J1E Je9 = JhQ := by kernel_rfl
noncomputable def Jdo : Array Oper := J18 Tryd.f17 4
def JhK : List (Bool × Bool × List Operand) := [(true, false, []), (true, false, []), (true, false, []), (true, false, []), (true, false, []), (false, true, [.tmp 21]), (false, true, [.tmp 21]), (false, false, []), (false, false, []), (false, false, [])]
theorem JcO : J1E Jdo = JhK := by kernel_rfl
def Out2 (a : Nat) (H : SHeap) (pcs : List Value) (e p : Int) : Prop := H.get a = .row pcs 30 false false ∧ H.get (a + 1) = .row [iv e, iv p] 33 false false
section
variable {N : Nat} {call : J0r}
set_option maxHeartbeats 4000000 in
theorem Jf3 (hsn : J1G call) {l : List RowN} {v : Value} {h : SHeap} {K : Kont} (hfl : h.floor ≤ h.next) (hv : J0l h v l)
  (hchk : ∀ H, J0l H v l → H.floor ≤ H.next → call 55 [v] H = some (J2k (J0v l).1 (J0v l).2, H))
  (hk1 : (J0v l).1 ≠ 0 → ∀ T' H, T'.get 2 = .pointer (some ⟨h.next, 0, none⟩) → T'.get 3 = .pointer (some ⟨h.next + 1, 0, none⟩) → Out2 h.next H [.string ByteArray.empty, .slice none 0 0, .slice none 0 0, .slice none 0 0, .slice none 0 0, .slice none 0 0, .slice none 0 0, iv 0] (J0v l).1 (J0v l).2 →
   h.next + 2 ≤ H.next → H.floor = h.floor → (∀ i, i < h.next → H.get i = h.get i) → K.ap Tryd.prog call N .ret ⟨T', H⟩)
  (hk2 : (J0v l).1 = 0 → ∀ T' H, T'.get 0 = v → T'.get 2 = .pointer (some ⟨h.next, 0, none⟩) → T'.get 3 = .pointer (some ⟨h.next + 1, 0, none⟩) → Out2 h.next H [.string ByteArray.empty, .slice none 0 0, .slice none 0 0, .slice none 0 0, .slice none 0 0, .slice none 0 0, .slice none 0 0, iv 0] 0 0 →
   h.next + 2 ≤ H.next → H.floor = h.floor → (∀ i, i < h.next → H.get i = h.get i) → WK Tryd.prog call N RR4 ⟨T', H⟩ K) :
  WK Tryd.prog call N (Tryd.f17.body.getD .skip) ⟨J00 0 [v] .leaf, h⟩ K := by
 show WK _ _ _ (.seq _ (.seq _ (.seq _ RR4))) _ _
 have zc30 : (Value.agg #[.string ByteArray.empty, .slice none 0 0, .slice none 0 0, .slice none 0 0, .slice none 0 0, .slice none 0 0, .slice none 0 0, iv 0]).cells.toList = [.string ByteArray.empty, .slice none 0 0, .slice none 0 0, .slice none 0 0, .slice none 0 0, .slice none 0 0, .slice none 0 0, iv 0] := rfl
 have zc33 : (J2k 0 0).cells.toList = [iv 0, iv 0] := rfl
 have ho2 : ∀ i, i < h.next → ((h.push (.row [.string ByteArray.empty, .slice none 0 0, .slice none 0 0, .slice none 0 0, .slice none 0 0, .slice none 0 0, .slice none 0 0, iv 0] 30 false false)).push (.row [iv 0, iv 0] 33 false false)).get i = h.get i := fun i hi => by rw [J06 (by show i < h.next + 1; omega), J06 hi]
 have hc := hchk ((h.push (.row [.string ByteArray.empty, .slice none 0 0, .slice none 0 0, .slice none 0 0, .slice none 0 0, .slice none 0 0, .slice none 0 0, iv 0] 30 false false)).push (.row [iv 0, iv 0] 33 false false)) (hv.mono (by show h.next ≤ h.next + 1 + 1; omega) ho2) (by show h.floor ≤ h.next + 1 + 1; omega)
 have ga := J4c (h := h) (o := .row [.string ByteArray.empty, .slice none 0 0, .slice none 0 0, .slice none 0 0, .slice none 0 0, .slice none 0 0, .slice none 0 0, iv 0] 30 false false) (o' := .row [iv 0, iv 0] 33 false false)
 have gb := J48 (h := h) (o := .row [.string ByteArray.empty, .slice none 0 0, .slice none 0 0, .slice none 0 0, .slice none 0 0, .slice none 0 0, .slice none 0 0, iv 0] 30 false false) (o' := .row [iv 0, iv 0] 33 false false)
 simp only [evC, seval, ↓evP, rpD, J0X, J2t, J5F, J3Y, zc30, J3C, J1t, zc33]
 generalize hH2 : (h.push (.row [.string ByteArray.empty, .slice none 0 0, .slice none 0 0, .slice none 0 0, .slice none 0 0, .slice none 0 0, .slice none 0 0, iv 0] 30 false false)).push (.row [iv 0, iv 0] 33 false false) = H2 at *
 have hn2 : H2.next = h.next + 1 + 1 := by rw [← hH2]; rfl
 have hf2 : H2.floor = h.floor := by rw [← hH2]; rfl
 have sF := stW (t := 33) sz33 (h := H2.push (.row [iv 0, iv 0] 33 false false)) (vs := [iv (J0v l).1, iv (J0v l).2]) J0h rfl rfl rfl (by show H2.floor ≤ H2.next; omega)
 simp only [evC, seval, ↓evP, rpD, J0X, J2t, hc, J3C, J1t, zc33, sF]
 have hg4 : ((H2.push (.row [iv 0, iv 0] 33 false false)).put H2.next (.row [iv (J0v l).1, iv (J0v l).2] 33 false false)).get H2.next = .row [iv (J0v l).1, iv (J0v l).2] 33 false false := J0b rfl (by show H2.next < H2.next + 1; omega)
 have hga : ((H2.push (.row [iv 0, iv 0] 33 false false)).put H2.next (.row [iv (J0v l).1, iv (J0v l).2] 33 false false)).get h.next = .row [.string ByteArray.empty, .slice none 0 0, .slice none 0 0, .slice none 0 0, .slice none 0 0, .slice none 0 0, .slice none 0 0, iv 0] 30 false false := by
  rw [J05 (by show H2.next < H2.next + 1; omega) (by omega), J06 (by omega)]; exact ga
 have hgb : ((H2.push (.row [iv 0, iv 0] 33 false false)).put H2.next (.row [iv (J0v l).1, iv (J0v l).2] 33 false false)).get (h.next + 1) = .row [iv 0, iv 0] 33 false false := by
  rw [J05 (by show H2.next < H2.next + 1; omega) (by omega), J06 (by omega)]; exact gb
 have hgo : ∀ i, i < h.next → ((H2.push (.row [iv 0, iv 0] 33 false false)).put H2.next (.row [iv (J0v l).1, iv (J0v l).2] 33 false false)).get i = h.get i := fun i hi => by
  rw [J05 (by show H2.next < H2.next + 1; omega) (by omega), J06 (by omega)]; exact ho2 i hi
 have hn3 : ((H2.push (.row [iv 0, iv 0] 33 false false)).put H2.next (.row [iv (J0v l).1, iv (J0v l).2] 33 false false)).next = h.next + 3 := by show H2.next + 1 = _; omega
 have hf3 : ((H2.push (.row [iv 0, iv 0] 33 false false)).put H2.next (.row [iv (J0v l).1, iv (J0v l).2] 33 false false)).floor = h.floor := hf2
 generalize (H2.push (.row [iv 0, iv 0] 33 false false)).put H2.next (.row [iv (J0v l).1, iv (J0v l).2] 33 false false) = H3 at *
 have l4 : ld1 0 (H3.get H2.next) = some (iv (J0v l).1) := by rw [hg4]; rfl
 cases d : ((J0v l).1 != 0) with
 | false =>
  have e0 : (J0v l).1 = 0 := by simpa using d
  simp only [evC, seval, ↓evP, rpD, J0G, J0X, J2t, J6a, J7G, l4, d]
  refine hk2 e0 _ _ ?_ ?_ ?_ ⟨hga, hgb⟩ (by omega) hf3 hgo <;> simp only [evC, seval, ↓evP, rpC]
 | true =>
  have e0 : (J0v l).1 ≠ 0 := by simpa using d
  have l42 : ldN 2 0 (H3.get H2.next) = some (J2k (J0v l).1 (J0v l).2) := by rw [hg4]; rfl
  have sP := stW sz30 (vs := [.string ByteArray.empty, .slice none 0 0, .slice none 0 0, .slice none 0 0, .slice none 0 0, .slice none 0 0, .slice none 0 0, iv 0]) hga rfl rfl rfl (by omega)
  have hgb' := (J05 (h := H3) (i := h.next) (j := h.next + 1) (o := .row [.string ByteArray.empty, .slice none 0 0, .slice none 0 0, .slice none 0 0, .slice none 0 0, .slice none 0 0, .slice none 0 0, iv 0] 30 false false) (by omega) (by omega)).trans hgb
  have sF2 := stW (t := 33) sz33 (vs := [iv (J0v l).1, iv (J0v l).2]) hgb' rfl rfl rfl (by show H3.floor ≤ _; omega)
  have n1 : (some H2.next != some h.next) = true := by simp; omega
  have i1 : idOf (.pointer (some ⟨H2.next, 0, none⟩)) = some H2.next := rfl
  have i2 : idOf (.pointer (some ⟨h.next, 0, none⟩)) = some h.next := rfl
  simp only [evC, seval, ↓evP, rpD, J0G, J0X, J2t, J6a, J7G, l4, d]
  refine WK.flags (ops := Je9) JdL ?_
  refine WKF.begin ?_
  have FF := And.intro @J2n (And.intro @l42 (And.intro @J28 (And.intro @i1 (And.intro @i2 (And.intro @n1 (And.intro @sP @sF2))))))
  refine wst hsn 0 (some 17) (.build 30 #[]) none ?_
  simp only [rgC, seval, J04, J02, WKFC, List.map_cons, List.map_nil, FF]
  refine wst hsn 1 (some 18) (.load 33 (.tmp 4)) none ?_
  simp only [rgC, seval, J04, J02, WKFC, rgL, FF]
  refine wst hsn 2 (none) (.store 30 (.tmp 2) (.tmp 17)) none ?_
  simp only [rgC, seval, J04, J02, WKFC, J17, rgS, FF]
  refine wst hsn 3 (none) (.store 33 (.tmp 3) (.tmp 18)) none ?_
  simp only [rgC, seval, J04, J02, WKFC, J17, rgS, FF]
  refine WKF.done (i := 4) (by kernel_rfl) ?_
  clear FF
  simp only [evC, seval, ↓evP, rpD, J0G, J0X, J2t]
  have ha : ∀ i, i ≠ h.next → (H3.put h.next (.row [.string ByteArray.empty, .slice none 0 0, .slice none 0 0, .slice none 0 0, .slice none 0 0, .slice none 0 0, .slice none 0 0, iv 0] 30 false false)).get i = H3.get i := fun i hi => J05 (by omega) (Ne.symm hi)
  refine hk1 e0 _ _ ?_ ?_ ⟨?_, J0b rfl (by show h.next + 1 < H3.next; omega)⟩ (by show h.next + 2 ≤ H3.next; omega) hf3 fun i hi => ?_
  ·simp only [evC, seval, ↓evP, rpC]
  ·simp only [evC, seval, ↓evP, rpC]
  ·rw [J05 (by show h.next + 1 < H3.next; omega) (by omega)]
   exact J0b rfl (by omega)
  ·rw [J05 (by show h.next + 1 < H3.next; omega) (by omega), ha i (by omega)]
   exact hgo i hi
set_option maxHeartbeats 4000000 in
theorem JeX (hsn : J1G call) {l : List RowN} {v : Value} {T : Tr} {H : SHeap} {K : Kont} (ht : J2c l) (hlen : l.length < 900000000) (hfl : H.floor ≤ H.next) (hv : J0l H v l) (t0 : T.get 0 = v)
  (hends : ∀ H, J0l H v l → H.floor ≤ H.next → ∃ h', call 56 [v] H = some (.slice (some ⟨H.next, 0, none⟩) l.length l.length, h') ∧ (h'.get H.next = .row (ints (J0o l)) 3 false false ∧ h'.next = H.next + 1 ∧ h'.floor = H.floor ∧ ∀ i, i < H.next → h'.get i = H.get i))
  (hk : ∀ T' H' m e r, T'.get 0 = v → T'.get 2 = T.get 2 → T'.get 3 = T.get 3 → T'.get 5 = .pointer (some ⟨m, 0, none⟩) → MkRE H' H.next m e r l.length (J52 l) (J0o l) (s0N l) → H.next ≤ H'.next → H'.floor = H.floor → (∀ i, i < H.next → H'.get i = H.get i) → WK Tryd.prog call N RR6 ⟨T', H'⟩ K) :
  WK Tryd.prog call N RR4 ⟨T, H⟩ K := by
 show WK _ _ _ (.seq (.region _ _ true) (.seq _ RR6)) _ _
 rw [J4p]
 have hpos := ht.pos
 obtain ⟨x, hx⟩ : ∃ x, l[0]? = some x := ⟨_, List.getElem?_eq_getElem hpos⟩
 obtain ⟨id, q, e0, hid, l0, l1, l2, l3, l4, lr⟩ := hv.row hx
 have hvf : J0l (H.fl (max H.floor H.next)) v l := hv.mono (Nat.le_refl _) fun _ _ => rfl
 obtain ⟨h3, hE, g1, g2, g3, g4⟩ := hends (H.fl (max H.floor H.next)) hvf (by show max H.floor H.next ≤ H.next; omega)
 simp only [J0J] at hE g1 g2 g4
 have g3' : h3.floor = max H.floor H.next := g3
 have g4' : ∀ i, i < H.next → h3.get i = H.get i := g4
 have hnm : J52 l = x.name := by unfold J52; rw [hx]
 have e0' : J0R Tryd.prog 22 v (iv 0) = some (.pointer (some ⟨id, q, none⟩)) := e0
 have hidT : (id < H.next) = True := by simp [hid]
 have hone : (mk0V x.name (-1) H.next l.length).cells.toList.all one = true := rfl
 have hcl : (mk0V x.name (-1) H.next l.length).cells.toList = [.string x.name, .slice none 0 0, .slice none 0 0, .slice none 0 0, .slice none 0 0, .slice none 0 0, .slice none 0 0, iv (-1), .slice (some ⟨H.next, 0, none⟩) l.length l.length, .slice none 0 0, iv 0, iv 0, iv 0, iv 0, iv 0] := rfl
 refine WK.flags (ops := Jdo) JcO ?_
 refine WKF.begin ?_
 have FF := And.intro @t0 (And.intro @e0' (And.intro @hidT (And.intro @J07 (And.intro @J0d (And.intro @l1 (And.intro @J2E (And.intro @hE (And.intro @J3V (And.intro @hone (And.intro @hcl @sz93))))))))))
 refine wst hsn 0 (some 19) (.move (.tmp 0)) none ?_
 simp only [rgC, seval, J04, J02, WKFC, FF]
 refine wst hsn 1 (some 20) (.indexAddr 22 (.tmp 19) (.const (Value.int IntKind.i64 0))) none ?_
 simp only [rgC, seval, J04, J02, WKFC, Nat.zero_add, FF]
 refine wst hsn 2 (some 21) (.fieldAddr 46 (.tmp 20) 1) none ?_
 simp only [rgC, seval, J04, J02, WKFC, Nat.zero_add, FF]
 refine wst hsn 3 (some 22) (.load 9 (.tmp 21)) none ?_
 simp only [rgC, seval, J04, J02, WKFC, rgL, FF]
 refine wst hsn 4 (some 23) (.build 30 #[(0, .tmp 22), (7, .const (Value.int IntKind.i64 (-1)))]) none ?_
 simp only [rgC, seval, J04, J02, WKFC, List.map_cons, List.map_nil, FF]
 refine wst hsn 5 (some 24) (.move (.tmp 0)) none ?_
 simp only [rgC, seval, J04, J02, WKFC, FF]
 refine wst hsn 6 (some 25) (.call { callee := .value (.func 56), args := #[.tmp 24], argTypes := #[22] }) none ?_
 simp only [rgC, seval, J04, J02, WKFC, rgK, FF]
 refine wst hsn 7 (some 26) (.build 93 #[(0, .tmp 23), (1, .tmp 25)]) none ?_
 simp only [rgC, seval, J04, J02, WKFC, List.map_cons, List.map_nil, FF]
 refine wst hsn 8 (some 27) (.box 93 (.tmp 26)) none ?_
 simp only [rgC, seval, J04, J02, WKFC, rgA, FF]
 refine wst hsn 9 (some 5) (.assign (.tmp 27)) none ?_
 simp only [rgC, seval, J04, J02, WKFC, FF]
 refine WKF.done (i := 10) (by kernel_rfl) ?_
 clear FF
 have hn4 : ((h3.fl H.floor).push (.row [.string x.name, .slice none 0 0, .slice none 0 0, .slice none 0 0, .slice none 0 0, .slice none 0 0, .slice none 0 0, iv (-1), .slice (some ⟨H.next, 0, none⟩) l.length l.length, .slice none 0 0, iv 0, iv 0, iv 0, iv 0, iv 0] 93 false false)).next = H.next + 1 + 1 := by show h3.next + 1 = _; omega
 have hf4 : ((h3.fl H.floor).push (.row [.string x.name, .slice none 0 0, .slice none 0 0, .slice none 0 0, .slice none 0 0, .slice none 0 0, .slice none 0 0, iv (-1), .slice (some ⟨H.next, 0, none⟩) l.length l.length, .slice none 0 0, iv 0, iv 0, iv 0, iv 0, iv 0] 93 false false)).floor = H.floor := rfl
 have gm : ((h3.fl H.floor).push (.row [.string x.name, .slice none 0 0, .slice none 0 0, .slice none 0 0, .slice none 0 0, .slice none 0 0, .slice none 0 0, iv (-1), .slice (some ⟨H.next, 0, none⟩) l.length l.length, .slice none 0 0, iv 0, iv 0, iv 0, iv 0, iv 0] 93 false false)).get h3.next = .row [.string x.name, .slice none 0 0, .slice none 0 0, .slice none 0 0, .slice none 0 0, .slice none 0 0, .slice none 0 0, iv (-1), .slice (some ⟨H.next, 0, none⟩) l.length l.length, .slice none 0 0, iv 0, iv 0, iv 0, iv 0, iv 0] 93 false false := J0h (h := h3.fl H.floor)
 have ge : ((h3.fl H.floor).push (.row [.string x.name, .slice none 0 0, .slice none 0 0, .slice none 0 0, .slice none 0 0, .slice none 0 0, .slice none 0 0, iv (-1), .slice (some ⟨H.next, 0, none⟩) l.length l.length, .slice none 0 0, iv 0, iv 0, iv 0, iv 0, iv 0] 93 false false)).get H.next = .row (ints (J0o l)) 3 false false := by rw [J06 (by show H.next < h3.next; omega)]; exact g1
 have go : ∀ i, i < H.next → ((h3.fl H.floor).push (.row [.string x.name, .slice none 0 0, .slice none 0 0, .slice none 0 0, .slice none 0 0, .slice none 0 0, .slice none 0 0, iv (-1), .slice (some ⟨H.next, 0, none⟩) l.length l.length, .slice none 0 0, iv 0, iv 0, iv 0, iv 0, iv 0] 93 false false)).get i = H.get i := fun i hi => by rw [J06 (by show i < h3.next; omega)]; exact g4' i hi
 generalize (h3.fl H.floor).push (.row [.string x.name, .slice none 0 0, .slice none 0 0, .slice none 0 0, .slice none 0 0, .slice none 0 0, .slice none 0 0, iv (-1), .slice (some ⟨H.next, 0, none⟩) l.length l.length, .slice none 0 0, iv 0, iv 0, iv 0, iv 0, iv 0] 93 false false) = H4 at *
 have hv4 : J0l H4 v l := hv.mono (by omega) go
 have hap := Jer hv4 hpos (by omega)
 have hm1 : ld1 1 (H4.get h3.next) = some (.slice none 0 0) := by rw [gm]; rfl
 have gm5 : (H4.push (.row (l.flatMap J0e) 46 true false)).get h3.next = .row [.string x.name, .slice none 0 0, .slice none 0 0, .slice none 0 0, .slice none 0 0, .slice none 0 0, .slice none 0 0, iv (-1), .slice (some ⟨H.next, 0, none⟩) l.length l.length, .slice none 0 0, iv 0, iv 0, iv 0, iv 0, iv 0] 93 false false := by rw [J06 (by omega)]; exact gm
 have hst := stc (t := 22) (off := 1) sz22 (v := .slice (some ⟨H4.next, 0, none⟩) l.length unk) rfl rfl gm5 (by simp) (by show H4.floor ≤ _; omega)
 have hfx : H4.fl (h3.fl H.floor).floor = H4 := by
  show H4.fl H.floor = H4
  rw [← hf4]
  exact J6L H4
 simp only [evC, seval, ↓evP, rpD, J0G, J0X, J2t, hfx, J0J, t0, J0z, J0y, J0F, hm1, hap, hst]
 have gput : ∀ (o : SObj) (i : Nat), i ≠ h3.next → ((H4.push (.row (l.flatMap J0e) 46 true false)).put h3.next o).get i = (H4.push (.row (l.flatMap J0e) 46 true false)).get i := fun o i hi => J05 (by show h3.next < H4.next + 1; omega) (Ne.symm hi)
 refine hk _ _ h3.next H.next H4.next ?_ ?_ ?_ ?_ ⟨fun i => if i = h3.next then 0 else if i = H4.next then 1 else if i = H.next then 10 else 11, fun _ => .slice none 0 0, ?_, ⟨by simp [s0N], by simp [s0N], by simp [s0N], by simp [s0N], rfl, fun t ht => by cases ht⟩⟩ ?_ (by show H4.floor = H.floor; exact hf4) fun i hi => ?_
 ·simp only [evC, seval, ↓evP, rpC, t0]
 ·simp only [evC, seval, ↓evP, rpC]
 ·simp only [evC, seval, ↓evP, rpC]
 ·simp only [evC, seval, ↓evP, rpC]
 ·exact
   { cell := by
      rw [J0b rfl (by show h3.next < H4.next + 1; omega), hnm]
      simp only [J1p, J39]
      rfl
     rows := by rw [gput _ _ (by omega)]; exact J0h
     len := rfl
     sl := fun j h2 h8 => by
      have hj : j = 2 ∨ j = 3 ∨ j = 4 ∨ j = 5 ∨ j = 6 ∨ j = 7 ∨ j = 8 := by omega
      rcases hj with rfl | rfl | rfl | rfl | rfl | rfl | rfl <;> exact .inl ⟨rfl, rfl, rfl⟩
     ends := by rw [gput _ _ (by omega), J06 (by omega)]; exact ge
     tm := if_pos rfl
     tr := by rw [if_neg (by omega), if_pos rfl]
     te := by rw [if_neg (by omega), if_neg (by omega), if_pos rfl]
     lm := ⟨by omega, by show h3.next < H4.next + 1; omega⟩
     lr := ⟨by omega, by show H4.next < H4.next + 1; omega⟩
     le := ⟨Nat.le_refl _, by show H.next < H4.next + 1; omega⟩
     fl := by show H4.floor ≤ H.next; omega }
 ·show H.next ≤ H4.next + 1
  omega
 ·rw [gput _ _ (by omega), J06 (by omega)]; exact go i hi
end
noncomputable def PR4 : Code := rt (rt (Tryd.f16.body.getD .skip))
noncomputable def PR5 : Code := rt PR4
noncomputable def PR6 : Code := rt PR5
noncomputable def PR7 : Code := rt PR6
noncomputable def PR8 : Code := rt PR7
noncomputable def PR19 : Code := rt PR8
noncomputable def JdZ : Array Oper := J18 Tryd.f16 3
def Jiu : List (Bool × Bool × List Operand) := [(false, true, []), (false, false, []), (false, true, [.tmp 4]), (false, false, [])]
theorem Jd2 : J1E JdZ = Jiu := by kernel_rfl
noncomputable def Jd0 : Array Oper := J18 Tryd.f16 5
def Jiw : List (Bool × Bool × List Operand) := [(true, true, []), (true, true, [.tmp 5]), (true, true, [.tmp 5]), (true, true, [.tmp 5]), (true, true, [.tmp 5]), (false, true, [.tmp 5, .tmp 27]), (false, true, [.tmp 5, .tmp 27]), (false, true, [.tmp 5]), (false, false, []), (false, false, []), (false, false, [])]
theorem JcR : J1E Jd0 = Jiw := by kernel_rfl
theorem stL {t : TypeId} {k : Nat} (ht : szOf Tryd.prog t = some k) {h : SHeap} {id : Nat} {vs cs : List Value} {ty : TypeId} {g : Bool} (hg : h.get id = .row cs ty g false) (hl : k ≤ cs.length) (hn : vs.length = k) (ho : vs.all one = true) (hf : h.floor ≤ id) :
  J0K Tryd.prog h t (.pointer (some ⟨id, 0, none⟩)) (.agg vs.toArray) = some (h.put id (.row (vs ++ cs.drop k) ty g false)) := by
 have hc : (Value.agg vs.toArray).cells = vs.toArray := rfl
 have hlay : Go.Sx.lay cs 0 vs = vs ++ cs.drop k := by
  simp only [Go.Sx.lay, List.take_zero, List.nil_append, Nat.zero_add, hn]
 simp only [J0K, hc, ht, J1q, hg]
 rw [if_pos (by simp [hn]), if_pos (by simp only [ho]; simp; omega), hlay]
theorem J2s {nm : ByteArray} {a : Option Addr} {n c : Nat} {m : Int} : J1P Tryd.prog 30 [(0, .string nm), (1, .slice a n c), (7, iv m)] = some (.agg #[.string nm, .slice a n c, .slice none 0 0, .slice none 0 0, .slice none 0 0, .slice none 0 0, .slice none 0 0, iv m]) := by
 have h := J82
 rw [Tryd.underlying30] at h
 simp only at h
 simp only [J1P, J5F, J3Y, if_true, Tryd.underlying30, h]
 rfl
theorem JeD : J2Q Tryd.prog (match Tryd.prog.underlying 83 with | some (.struct fs) => fs.toList | _ => []) = some [(0, 8), (8, 1), (9, 1)] := by kernel_rfl
theorem JhH : J1w Tryd.prog 83 = some (.agg #[.string ByteArray.empty, .slice none 0 0, .slice none 0 0, .slice none 0 0, .slice none 0 0, .slice none 0 0, .slice none 0 0, iv 0, .map none, .map none]) := by kernel_rfl
abbrev mk0 (k c : Nat) : Value := .agg #[.string ByteArray.empty, .slice none 0 0, .slice none 0 0, .slice none 0 0, .slice none 0 0, .slice none 0 0, .slice none 0 0, iv 0, .map (some k), .map (some c)]
theorem Jh5 {k c : Nat} : J1P Tryd.prog 83 [(1, .map (some k)), (2, .map (some c))] = some (mk0 k c) := by
 have h := JeD
 rw [Tryd.underlying83] at h
 simp only at h
 have hf : flat (.agg #[.string ByteArray.empty, .slice none 0 0, .slice none 0 0, .slice none 0 0, .slice none 0 0, .slice none 0 0, .slice none 0 0, iv 0, .map none, .map none]) = true := rfl
 simp only [J1P, JhH, hf, if_true, Tryd.underlying83, h]
 rfl
theorem sz86 : szOf Tryd.prog 86 = some 1 := by kernel_rfl
theorem Jja : J2X Tryd.prog 86 = some false := by kernel_rfl
theorem JhC : J1w Tryd.prog 86 = some .nilFunc := by kernel_rfl
theorem Jhx : J1w Tryd.prog 79 = some (.pointer none) := by kernel_rfl
theorem Jib : J1w Tryd.prog 28 = some (.slice none 0 0) := by kernel_rfl
theorem Jdi {h : SHeap} {id off : Nat} : J2x Tryd.prog h 86 (.pointer (some ⟨id, off, none⟩)) = ld1 off (h.get id) := J41 Jja
theorem bs87 {h : SHeap} {f0 f1 f2 : FuncId} {a0 a1 a2 b0 b1 b2 : Array Value} : J0Q Tryd.prog h 87 3 [(0, .func (.func f0) a0 b0), (1, .func (.func f1) a1 b1), (2, .func (.func f2) a2 b2)] = some (.slice (some ⟨h.next, 0, none⟩) 3 3, h.push (.row [.func (.func f0) a0 b0, .func (.func f1) a1 b1, .func (.func f2) a2 b2] 86 false false)) := by
 have hc : ∀ (f : FuncId) (a b : Array Value), (Value.func (.func f) a b).cells = #[.func (.func f) a b] := fun _ _ _ => rfl
 have hz : Value.nilFunc.cells = #[.nilFunc] := rfl
 simp [J0Q, Tryd.underlying87, sz86, JhC, flat, J1i, hc, hz, J5k, J3e, Go.Sx.lay]
theorem Jj0 {h : SHeap} {id c i : Nat} (hi : i < 3) : J0R Tryd.prog 87 (.slice (some ⟨id, 0, none⟩) 3 c) (iv (i : Int)) = some (.pointer (some ⟨id, i, none⟩)) := by
 simp only [J0R, Tryd.underlying87, sz86, J0q]
 rw [if_pos (by omega)]
 simp
theorem Jj3 {h : SHeap} {a : Option Addr} {n c : Nat} : lenS Tryd.prog h 87 (.slice a n c) = some (iv (n : Int)) := by simp [lenS, Tryd.underlying87]
section
variable {N : Nat} {call : J0r}
set_option maxHeartbeats 4000000 in
theorem Je0 (hsn : J1G call) {l : List RowN} {v : Value} {h : SHeap} {K : Kont} (hfl : h.floor ≤ h.next) (hv : J0l h v l)
  (hg : h.get 0 = J14) (hn0 : 0 < h.next)
  (hchk : ∀ H, J0l H v l → H.get 0 = J14 → 0 < H.next → H.floor ≤ H.next → call 30 [v] H = some (J2k (J0v l).1 (J0v l).2, H))
  (hk1 : (J0v l).1 ≠ 0 → ∀ T' H, T'.get 2 = .pointer (some ⟨h.next, 0, none⟩) → T'.get 3 = .pointer (some ⟨h.next + 1, 0, none⟩) → Out2 h.next H [.string ByteArray.empty, .slice none 0 0, .slice none 0 0, .slice none 0 0, .slice none 0 0, .slice none 0 0, .slice none 0 0, iv 0] (J0v l).1 (J0v l).2 →
   h.next + 2 ≤ H.next → H.floor = h.floor → (∀ i, i < h.next → H.get i = h.get i) → K.ap Tryd.prog call N .ret ⟨T', H⟩)
  (hk2 : (J0v l).1 = 0 → ∀ T' H, T'.get 0 = v → T'.get 2 = .pointer (some ⟨h.next, 0, none⟩) → T'.get 3 = .pointer (some ⟨h.next + 1, 0, none⟩) → Out2 h.next H [.string ByteArray.empty, .slice none 0 0, .slice none 0 0, .slice none 0 0, .slice none 0 0, .slice none 0 0, .slice none 0 0, iv 0] 0 0 →
   h.next + 2 ≤ H.next → H.floor = h.floor → (∀ i, i < h.next → H.get i = h.get i) → WK Tryd.prog call N PR4 ⟨T', H⟩ K) :
  WK Tryd.prog call N (Tryd.f16.body.getD .skip) ⟨J00 0 [v] .leaf, h⟩ K := by
 show WK _ _ _ (.seq _ (.seq _ PR4)) _ _
 have zc30 : (Value.agg #[.string ByteArray.empty, .slice none 0 0, .slice none 0 0, .slice none 0 0, .slice none 0 0, .slice none 0 0, .slice none 0 0, iv 0]).cells.toList = [.string ByteArray.empty, .slice none 0 0, .slice none 0 0, .slice none 0 0, .slice none 0 0, .slice none 0 0, .slice none 0 0, iv 0] := rfl
 have zc33 : (J2k 0 0).cells.toList = [iv 0, iv 0] := rfl
 have ho2 : ∀ i, i < h.next → ((h.push (.row [.string ByteArray.empty, .slice none 0 0, .slice none 0 0, .slice none 0 0, .slice none 0 0, .slice none 0 0, .slice none 0 0, iv 0] 30 false false)).push (.row [iv 0, iv 0] 33 false false)).get i = h.get i := fun i hi => by rw [J06 (by show i < h.next + 1; omega), J06 hi]
 have hc := hchk ((h.push (.row [.string ByteArray.empty, .slice none 0 0, .slice none 0 0, .slice none 0 0, .slice none 0 0, .slice none 0 0, .slice none 0 0, iv 0] 30 false false)).push (.row [iv 0, iv 0] 33 false false)) (hv.mono (by show h.next ≤ h.next + 1 + 1; omega) ho2) ((ho2 0 hn0).trans hg) (by show 0 < h.next + 1 + 1; omega) (by show h.floor ≤ h.next + 1 + 1; omega)
 have ga := J4c (h := h) (o := .row [.string ByteArray.empty, .slice none 0 0, .slice none 0 0, .slice none 0 0, .slice none 0 0, .slice none 0 0, .slice none 0 0, iv 0] 30 false false) (o' := .row [iv 0, iv 0] 33 false false)
 have gb := J48 (h := h) (o := .row [.string ByteArray.empty, .slice none 0 0, .slice none 0 0, .slice none 0 0, .slice none 0 0, .slice none 0 0, .slice none 0 0, iv 0] 30 false false) (o' := .row [iv 0, iv 0] 33 false false)
 simp only [evC, seval, ↓evP, rpD, J0X, J2t, J5F, J3Y, zc30, J3C, J1t, zc33]
 generalize hH2 : (h.push (.row [.string ByteArray.empty, .slice none 0 0, .slice none 0 0, .slice none 0 0, .slice none 0 0, .slice none 0 0, .slice none 0 0, iv 0] 30 false false)).push (.row [iv 0, iv 0] 33 false false) = H2 at *
 have hn2 : H2.next = h.next + 1 + 1 := by rw [← hH2]; rfl
 have hf2 : H2.floor = h.floor := by rw [← hH2]; rfl
 have sF := stW (t := 33) sz33 (h := H2.push (.row [iv 0, iv 0] 33 false false)) (vs := [iv (J0v l).1, iv (J0v l).2]) J0h rfl rfl rfl (by show H2.floor ≤ H2.next; omega)
 simp only [evC, seval, ↓evP, rpD, J0X, J2t, hc, J3C, J1t, zc33, sF]
 have hg4 : ((H2.push (.row [iv 0, iv 0] 33 false false)).put H2.next (.row [iv (J0v l).1, iv (J0v l).2] 33 false false)).get H2.next = .row [iv (J0v l).1, iv (J0v l).2] 33 false false := J0b rfl (by show H2.next < H2.next + 1; omega)
 have hga : ((H2.push (.row [iv 0, iv 0] 33 false false)).put H2.next (.row [iv (J0v l).1, iv (J0v l).2] 33 false false)).get h.next = .row [.string ByteArray.empty, .slice none 0 0, .slice none 0 0, .slice none 0 0, .slice none 0 0, .slice none 0 0, .slice none 0 0, iv 0] 30 false false := by
  rw [J05 (by show H2.next < H2.next + 1; omega) (by omega), J06 (by omega)]; exact ga
 have hgb : ((H2.push (.row [iv 0, iv 0] 33 false false)).put H2.next (.row [iv (J0v l).1, iv (J0v l).2] 33 false false)).get (h.next + 1) = .row [iv 0, iv 0] 33 false false := by
  rw [J05 (by show H2.next < H2.next + 1; omega) (by omega), J06 (by omega)]; exact gb
 have hgo : ∀ i, i < h.next → ((H2.push (.row [iv 0, iv 0] 33 false false)).put H2.next (.row [iv (J0v l).1, iv (J0v l).2] 33 false false)).get i = h.get i := fun i hi => by
  rw [J05 (by show H2.next < H2.next + 1; omega) (by omega), J06 (by omega)]; exact ho2 i hi
 have hn3 : ((H2.push (.row [iv 0, iv 0] 33 false false)).put H2.next (.row [iv (J0v l).1, iv (J0v l).2] 33 false false)).next = h.next + 3 := by show H2.next + 1 = _; omega
 have hf3 : ((H2.push (.row [iv 0, iv 0] 33 false false)).put H2.next (.row [iv (J0v l).1, iv (J0v l).2] 33 false false)).floor = h.floor := hf2
 generalize (H2.push (.row [iv 0, iv 0] 33 false false)).put H2.next (.row [iv (J0v l).1, iv (J0v l).2] 33 false false) = H3 at *
 have l4 : ld1 0 (H3.get H2.next) = some (iv (J0v l).1) := by rw [hg4]; rfl
 cases d : ((J0v l).1 != 0) with
 | false =>
  have e0 : (J0v l).1 = 0 := by simpa using d
  simp only [evC, seval, ↓evP, rpD, J0G, J0X, J2t, J6a, J7G, l4, d]
  refine hk2 e0 _ _ ?_ ?_ ?_ ⟨hga, hgb⟩ (by omega) hf3 hgo <;> simp only [evC, seval, ↓evP, rpC]
 | true =>
  have e0 : (J0v l).1 ≠ 0 := by simpa using d
  have l42 : ldN 2 0 (H3.get H2.next) = some (J2k (J0v l).1 (J0v l).2) := by rw [hg4]; rfl
  have sP := stW sz30 (vs := [.string ByteArray.empty, .slice none 0 0, .slice none 0 0, .slice none 0 0, .slice none 0 0, .slice none 0 0, .slice none 0 0, iv 0]) hga rfl rfl rfl (by omega)
  have hgb' := (J05 (h := H3) (i := h.next) (j := h.next + 1) (o := .row [.string ByteArray.empty, .slice none 0 0, .slice none 0 0, .slice none 0 0, .slice none 0 0, .slice none 0 0, .slice none 0 0, iv 0] 30 false false) (by omega) (by omega)).trans hgb
  have sF2 := stW (t := 33) sz33 (vs := [iv (J0v l).1, iv (J0v l).2]) hgb' rfl rfl rfl (by show H3.floor ≤ _; omega)
  have n1 : (some H2.next != some h.next) = true := by simp; omega
  have i1 : idOf (.pointer (some ⟨H2.next, 0, none⟩)) = some H2.next := rfl
  have i2 : idOf (.pointer (some ⟨h.next, 0, none⟩)) = some h.next := rfl
  simp only [evC, seval, ↓evP, rpD, J0G, J0X, J2t, J6a, J7G, l4, d]
  refine WK.flags (ops := JdZ) Jd2 ?_
  refine WKF.begin ?_
  have FF := And.intro @J2n (And.intro @l42 (And.intro @J28 (And.intro @i1 (And.intro @i2 (And.intro @n1 (And.intro @sP @sF2))))))
  refine wst hsn 0 (some 18) (.build 30 #[]) none ?_
  simp only [rgC, seval, J04, J02, WKFC, List.map_cons, List.map_nil, FF]
  refine wst hsn 1 (some 19) (.load 33 (.tmp 4)) none ?_
  simp only [rgC, seval, J04, J02, WKFC, rgL, FF]
  refine wst hsn 2 (none) (.store 30 (.tmp 2) (.tmp 18)) none ?_
  simp only [rgC, seval, J04, J02, WKFC, J17, rgS, FF]
  refine wst hsn 3 (none) (.store 33 (.tmp 3) (.tmp 19)) none ?_
  simp only [rgC, seval, J04, J02, WKFC, J17, rgS, FF]
  refine WKF.done (i := 4) (by kernel_rfl) ?_
  clear FF
  simp only [evC, seval, ↓evP, rpD, J0G, J0X, J2t]
  have ha : ∀ i, i ≠ h.next → (H3.put h.next (.row [.string ByteArray.empty, .slice none 0 0, .slice none 0 0, .slice none 0 0, .slice none 0 0, .slice none 0 0, .slice none 0 0, iv 0] 30 false false)).get i = H3.get i := fun i hi => J05 (by omega) (Ne.symm hi)
  refine hk1 e0 _ _ ?_ ?_ ⟨?_, J0b rfl (by show h.next + 1 < H3.next; omega)⟩ (by show h.next + 2 ≤ H3.next; omega) hf3 fun i hi => ?_
  ·simp only [evC, seval, ↓evP, rpC]
  ·simp only [evC, seval, ↓evP, rpC]
  ·rw [J05 (by show h.next + 1 < H3.next; omega) (by omega)]
   exact J0b rfl (by omega)
  ·rw [J05 (by show h.next + 1 < H3.next; omega) (by omega), ha i (by omega)]
   exact hgo i hi
structure CellsP (h : SHeap) (m e c5 c6 fl n : Nat) (E : List Int) : Prop where
 h5 : h.get c5 = .row [.pointer (some ⟨m, 0, none⟩)] 79 false false
 h6 : h.get c6 = .row [.slice (some ⟨e, 0, none⟩) n n] 28 false false
 hf : h.get fl = .row [.func (.func 50) #[] #[.pointer (some ⟨c5, 0, none⟩), .pointer (some ⟨c6, 0, none⟩)], .func (.func 52) #[.pointer (some ⟨m, 0, none⟩)] #[], .func (.func 53) #[.pointer (some ⟨m, 0, none⟩)] #[]] 86 false false
set_option maxHeartbeats 4000000 in
theorem Jdt (hsn : J1G call) {l : List RowN} {v : Value} {T : Tr} {H : SHeap} {K : Kont} (ht : J2c l) (hlen : l.length < 900000000) (hfl : H.floor ≤ H.next) (hv : J0l H v l) (t0 : T.get 0 = v)
  (hclone : ∀ H, J0l H v l → ∃ h', call 48 [v] H = some (.slice (some ⟨H.next + 1, 0, none⟩) l.length unk, h') ∧ (h'.get (H.next + 1) = .row (l.flatMap J0e) 46 true false ∧ h'.next = H.next + 2 ∧ h'.floor = H.floor ∧ ∀ i, i < H.next → h'.get i = H.get i))
  (hends : ∀ H, J0l H v l → H.floor ≤ H.next → ∃ h', call 49 [v] H = some (.slice (some ⟨H.next, 0, none⟩) l.length l.length, h') ∧ (h'.get H.next = .row (ints (J0o l)) 3 false false ∧ h'.next = H.next + 1 ∧ h'.floor = H.floor ∧ ∀ i, i < H.next → h'.get i = H.get i))
  (hk : ∀ T' H' m k c e r c5 c6 fl, T'.get 0 = v → T'.get 2 = T.get 2 → T'.get 3 = T.get 3 → T'.get 5 = .pointer (some ⟨c5, 0, none⟩) → T'.get 6 = .pointer (some ⟨c6, 0, none⟩) → T'.get 7 = .slice (some ⟨fl, 0, none⟩) 3 3 →
   MkE H' H.next m k c e r l.length (J52 l) (J0o l) [c5, c6, fl] (s0N l) → CellsP H' m e c5 c6 fl l.length (J0o l) → H.next ≤ H'.next → H'.floor = H.floor → (∀ i, i < H.next → H'.get i = H.get i) → WK Tryd.prog call N PR8 ⟨T', H'⟩ K) :
  WK Tryd.prog call N PR4 ⟨T, H⟩ K := by
 show WK _ _ _ (.seq _ (.seq (.region _ _ true) (.seq _ (.seq _ PR8)))) _ _
 have hpos := ht.pos
 obtain ⟨x, hx⟩ : ∃ x, l[0]? = some x := ⟨_, List.getElem?_eq_getElem hpos⟩
 have hnm : J52 l = x.name := by unfold J52; rw [hx]
 have mc : (mk0 H.next (H.next + 1)).cells.toList = [.string ByteArray.empty, .slice none 0 0, .slice none 0 0, .slice none 0 0, .slice none 0 0, .slice none 0 0, .slice none 0 0, iv 0, .map (some H.next), .map (some (H.next + 1))] := rfl
 have mo : ([.string ByteArray.empty, .slice none 0 0, .slice none 0 0, .slice none 0 0, .slice none 0 0, .slice none 0 0, .slice none 0 0, iv 0, .map (some H.next), .map (some (H.next + 1))] : List Value).all one = true := rfl
 have z79 : (Value.pointer none).cells.toList = [.pointer none] := rfl
 have f79 : flat (.pointer none) = true := rfl
 have hst : J0K Tryd.prog ((((H.push (.map [])).push (.map [])).push (.row [.string ByteArray.empty, .slice none 0 0, .slice none 0 0, .slice none 0 0, .slice none 0 0, .slice none 0 0, .slice none 0 0, iv 0, .map (some H.next), .map (some (H.next + 1))] 83 false false)).push (.row [.pointer none] 79 false false)) 79 (.pointer (some ⟨H.next + 1 + 1 + 1, 0, none⟩)) (.pointer (some ⟨H.next + 1 + 1, 0, none⟩)) = _ :=
  stc (off := 0) sz79 rfl rfl (J0h (h := (((H.push (.map [])).push (.map [])).push (.row [.string ByteArray.empty, .slice none 0 0, .slice none 0 0, .slice none 0 0, .slice none 0 0, .slice none 0 0, .slice none 0 0, iv 0, .map (some H.next), .map (some (H.next + 1))] 83 false false)))) (by decide) (by show H.floor ≤ H.next + 1 + 1 + 1; omega)
 simp only [evC, seval, ↓evP, rpD, J0X, J2t, Jh5, mc, mo, sz83, Jhx, z79, f79, hst]
 have n1 : (((H.push (.map [])).push (.map [])).push (.row [.string ByteArray.empty, .slice none 0 0, .slice none 0 0, .slice none 0 0, .slice none 0 0, .slice none 0 0, .slice none 0 0, iv 0, .map (some H.next), .map (some (H.next + 1))] 83 false false)).next = H.next + 1 + 1 + 1 := rfl
 have P0 : ∀ i, i < H.next → ((((H.push (.map [])).push (.map [])).push (.row [.string ByteArray.empty, .slice none 0 0, .slice none 0 0, .slice none 0 0, .slice none 0 0, .slice none 0 0, .slice none 0 0, iv 0, .map (some H.next), .map (some (H.next + 1))] 83 false false)).push (.row [.pointer none] 79 false false)).get i = H.get i := fun i hi => by
  rw [J06 (by show i < H.next + 1 + 1 + 1; omega), J06 (by show i < H.next + 1 + 1; omega), J06 (by show i < H.next + 1; omega), J06 hi]
 have P1 : ((((H.push (.map [])).push (.map [])).push (.row [.string ByteArray.empty, .slice none 0 0, .slice none 0 0, .slice none 0 0, .slice none 0 0, .slice none 0 0, .slice none 0 0, iv 0, .map (some H.next), .map (some (H.next + 1))] 83 false false)).push (.row [.pointer none] 79 false false)).get H.next = .map [] := by
  rw [J06 (by show H.next < H.next + 1 + 1 + 1; omega), J06 (by show H.next < H.next + 1 + 1; omega)]; exact J4c
 have P2 : ((((H.push (.map [])).push (.map [])).push (.row [.string ByteArray.empty, .slice none 0 0, .slice none 0 0, .slice none 0 0, .slice none 0 0, .slice none 0 0, .slice none 0 0, iv 0, .map (some H.next), .map (some (H.next + 1))] 83 false false)).push (.row [.pointer none] 79 false false)).get (H.next + 1) = .map [] := by
  rw [J06 (by show H.next + 1 < H.next + 1 + 1 + 1; omega), J06 (by show H.next + 1 < H.next + 1 + 1; omega)]; exact J48
 have P3 : ((((H.push (.map [])).push (.map [])).push (.row [.string ByteArray.empty, .slice none 0 0, .slice none 0 0, .slice none 0 0, .slice none 0 0, .slice none 0 0, .slice none 0 0, iv 0, .map (some H.next), .map (some (H.next + 1))] 83 false false)).push (.row [.pointer none] 79 false false)).get (H.next + 1 + 1) = .row [.string ByteArray.empty, .slice none 0 0, .slice none 0 0, .slice none 0 0, .slice none 0 0, .slice none 0 0, .slice none 0 0, iv 0, .map (some H.next), .map (some (H.next + 1))] 83 false false := by
  rw [J06 (by show H.next + 1 + 1 < H.next + 1 + 1 + 1; omega)]; exact J0h (h := (H.push (.map [])).push (.map []))
 have nA : ((((H.push (.map [])).push (.map [])).push (.row [.string ByteArray.empty, .slice none 0 0, .slice none 0 0, .slice none 0 0, .slice none 0 0, .slice none 0 0, .slice none 0 0, iv 0, .map (some H.next), .map (some (H.next + 1))] 83 false false)).push (.row [.pointer none] 79 false false)).next = H.next + 4 := rfl
 have fA : ((((H.push (.map [])).push (.map [])).push (.row [.string ByteArray.empty, .slice none 0 0, .slice none 0 0, .slice none 0 0, .slice none 0 0, .slice none 0 0, .slice none 0 0, iv 0, .map (some H.next), .map (some (H.next + 1))] 83 false false)).push (.row [.pointer none] 79 false false)).floor = H.floor := rfl
 generalize (((H.push (.map [])).push (.map [])).push (.row [.string ByteArray.empty, .slice none 0 0, .slice none 0 0, .slice none 0 0, .slice none 0 0, .slice none 0 0, .slice none 0 0, iv 0, .map (some H.next), .map (some (H.next + 1))] 83 false false)).push (.row [.pointer none] 79 false false) = A0 at *
 have Q : ∀ i, i ≠ H.next + 1 + 1 + 1 → (A0.put (H.next + 1 + 1 + 1) (.row ([Value.pointer none].set 0 (.pointer (some ⟨H.next + 1 + 1, 0, none⟩))) 79 false false)).get i = A0.get i := fun i hi => J05 (by omega) (Ne.symm hi)
 have a0 : ∀ i, i < H.next → (A0.put (H.next + 1 + 1 + 1) (.row ([Value.pointer none].set 0 (.pointer (some ⟨H.next + 1 + 1, 0, none⟩))) 79 false false)).get i = H.get i := fun i hi => by rw [Q i (by omega)]; exact P0 i hi
 have a1 := (Q H.next (by omega)).trans P1
 have a2 := (Q (H.next + 1) (by omega)).trans P2
 have a3 := (Q (H.next + 1 + 1) (by omega)).trans P3
 have a4 : (A0.put (H.next + 1 + 1 + 1) (.row ([Value.pointer none].set 0 (.pointer (some ⟨H.next + 1 + 1, 0, none⟩))) 79 false false)).get (H.next + 1 + 1 + 1) = .row [.pointer (some ⟨H.next + 1 + 1, 0, none⟩)] 79 false false := J0b rfl (by omega)
 have nB : (A0.put (H.next + 1 + 1 + 1) (.row ([Value.pointer none].set 0 (.pointer (some ⟨H.next + 1 + 1, 0, none⟩))) 79 false false)).next = H.next + 4 := nA
 have fB : (A0.put (H.next + 1 + 1 + 1) (.row ([Value.pointer none].set 0 (.pointer (some ⟨H.next + 1 + 1, 0, none⟩))) 79 false false)).floor = H.floor := fA
 generalize A0.put (H.next + 1 + 1 + 1) (.row ([Value.pointer none].set 0 (.pointer (some ⟨H.next + 1 + 1, 0, none⟩))) 79 false false) = A at *
 clear hst n1 P0 P1 P2 P3 nA fA Q A0
 have hvA : J0l A v l := hv.mono (by omega) a0
 obtain ⟨id, q, e0, hid, l0, l1, l2, l3, l4, lr⟩ := hvA.row hx
 have e0' : J0R Tryd.prog 22 v (iv 0) = some (.pointer (some ⟨id, q, none⟩)) := e0
 have hidT : (id < A.next) = True := by simp [hid]
 have l79 : ld1 0 (A.get (H.next + 1 + 1 + 1)) = some (.pointer (some ⟨H.next + 1 + 1, 0, none⟩)) := by rw [a4]; rfl
 have hvf : J0l (A.fl (max A.floor A.next)) v l := hvA.mono (Nat.le_refl _) fun _ _ => rfl
 obtain ⟨h3, hE, g1, g2, g3, g4⟩ := hclone (A.fl (max A.floor A.next)) hvf
 simp only [J0J] at hE g1 g2 g4
 have g4' : ∀ i, i < A.next → h3.get i = A.get i := g4
 have hs30 : J0K Tryd.prog (h3.fl A.floor) 30 (.pointer (some ⟨H.next + 1 + 1, 0, none⟩)) (.agg #[.string x.name, .slice (some ⟨A.next + 1, 0, none⟩) l.length unk, .slice none 0 0, .slice none 0 0, .slice none 0 0, .slice none 0 0, .slice none 0 0, iv (-1)]) = _ :=
  stL (vs := [.string x.name, .slice (some ⟨A.next + 1, 0, none⟩) l.length unk, .slice none 0 0, .slice none 0 0, .slice none 0 0, .slice none 0 0, .slice none 0 0, iv (-1)]) sz30 (by rw [J1g, g4' _ (by omega)]; exact a3) (by simp only [List.length_cons, List.length_nil]; omega) rfl rfl (by show A.floor ≤ _; omega)
 have i3 : ((H.next + 1 + 1 + 1) < A.next) = True := by simp; omega
 refine WK.flags (ops := Jd0) JcR ?_
 refine WKF.begin ?_
 have FF := And.intro @t0 (And.intro @l79 (And.intro @e0' (And.intro @hidT (And.intro @i3 (And.intro @J07 (And.intro @J0d (And.intro @J1W (And.intro @l1 (And.intro @hE (And.intro @J2s (And.intro @J0g @hs30)))))))))))
 refine wst hsn 0 (some 24) (.load 79 (.tmp 5)) none ?_
 simp only [rgC, seval, J04, J02, WKFC, rgL, FF]
 refine wst hsn 1 (some 25) (.move (.tmp 0)) none ?_
 simp only [rgC, seval, J04, J02, WKFC, FF]
 refine wst hsn 2 (some 26) (.indexAddr 22 (.tmp 25) (.const (Value.int IntKind.i64 0))) none ?_
 simp only [rgC, seval, J04, J02, WKFC, Nat.zero_add, FF]
 refine wst hsn 3 (some 27) (.fieldAddr 46 (.tmp 26) 1) none ?_
 simp only [rgC, seval, J04, J02, WKFC, Nat.zero_add, FF]
 refine wst hsn 4 (some 28) (.load 9 (.tmp 27)) none ?_
 simp only [rgC, seval, J04, J02, WKFC, rgL, FF]
 refine wst hsn 5 (some 29) (.move (.tmp 0)) none ?_
 simp only [rgC, seval, J04, J02, WKFC, FF]
 refine wst hsn 6 (some 30) (.call { callee := .value (.func 48), args := #[.tmp 29], argTypes := #[22] }) none ?_
 simp only [rgC, seval, J04, J02, WKFC, rgK, FF]
 refine wst hsn 7 (some 31) (.build 30 #[(0, .tmp 28), (1, .tmp 30), (7, .const (Value.int IntKind.i64 (-1)))]) none ?_
 simp only [rgC, seval, J04, J02, WKFC, List.map_cons, List.map_nil, FF]
 refine wst hsn 8 (some 32) (.nilCheck (.tmp 24)) none ?_
 simp only [rgC, seval, J04, J02, WKFC, FF]
 refine wst hsn 9 (some 33) (.fieldAddr 83 (.tmp 32) 0) none ?_
 simp only [rgC, seval, J04, J02, WKFC, Nat.zero_add, FF]
 refine wst hsn 10 (none) (.store 30 (.tmp 33) (.tmp 31)) none ?_
 simp only [rgC, seval, J04, J02, WKFC, J17, rgS, FF]
 refine WKF.done (i := 11) (by kernel_rfl) ?_
 clear FF
 have hgo : ∀ i, i ≠ H.next + 1 + 1 → ((h3.fl A.floor).put (H.next + 1 + 1) (SObj.row ([.string x.name, .slice (some ⟨A.next + 1, 0, none⟩) l.length unk, .slice none 0 0, .slice none 0 0, .slice none 0 0, .slice none 0 0, .slice none 0 0, iv (-1)] ++ List.drop 8 [.string ByteArray.empty, .slice none 0 0, .slice none 0 0, .slice none 0 0, .slice none 0 0, .slice none 0 0, .slice none 0 0, iv 0, .map (some H.next), .map (some (H.next + 1))]) 83 false false)).get i = h3.get i := fun i hi => J05 (by show _ < h3.next; omega) (Ne.symm hi)
 have b0 : ∀ i, i < H.next → ((h3.fl A.floor).put (H.next + 1 + 1) (SObj.row ([.string x.name, .slice (some ⟨A.next + 1, 0, none⟩) l.length unk, .slice none 0 0, .slice none 0 0, .slice none 0 0, .slice none 0 0, .slice none 0 0, iv (-1)] ++ List.drop 8 [.string ByteArray.empty, .slice none 0 0, .slice none 0 0, .slice none 0 0, .slice none 0 0, .slice none 0 0, .slice none 0 0, iv 0, .map (some H.next), .map (some (H.next + 1))]) 83 false false)).get i = H.get i := fun i hi => by rw [hgo i (by omega), g4' i (by omega), a0 i hi]
 have b1 : ((h3.fl A.floor).put (H.next + 1 + 1) (SObj.row ([.string x.name, .slice (some ⟨A.next + 1, 0, none⟩) l.length unk, .slice none 0 0, .slice none 0 0, .slice none 0 0, .slice none 0 0, .slice none 0 0, iv (-1)] ++ List.drop 8 [.string ByteArray.empty, .slice none 0 0, .slice none 0 0, .slice none 0 0, .slice none 0 0, .slice none 0 0, .slice none 0 0, iv 0, .map (some H.next), .map (some (H.next + 1))]) 83 false false)).get H.next = .map [] := by rw [hgo _ (by omega), g4' _ (by omega)]; exact a1
 have b2 : ((h3.fl A.floor).put (H.next + 1 + 1) (SObj.row ([.string x.name, .slice (some ⟨A.next + 1, 0, none⟩) l.length unk, .slice none 0 0, .slice none 0 0, .slice none 0 0, .slice none 0 0, .slice none 0 0, iv (-1)] ++ List.drop 8 [.string ByteArray.empty, .slice none 0 0, .slice none 0 0, .slice none 0 0, .slice none 0 0, .slice none 0 0, .slice none 0 0, iv 0, .map (some H.next), .map (some (H.next + 1))]) 83 false false)).get (H.next + 1) = .map [] := by rw [hgo _ (by omega), g4' _ (by omega)]; exact a2
 have b3 : ((h3.fl A.floor).put (H.next + 1 + 1) (SObj.row ([.string x.name, .slice (some ⟨A.next + 1, 0, none⟩) l.length unk, .slice none 0 0, .slice none 0 0, .slice none 0 0, .slice none 0 0, .slice none 0 0, iv (-1)] ++ List.drop 8 [.string ByteArray.empty, .slice none 0 0, .slice none 0 0, .slice none 0 0, .slice none 0 0, .slice none 0 0, .slice none 0 0, iv 0, .map (some H.next), .map (some (H.next + 1))]) 83 false false)).get (H.next + 1 + 1) = .row [.string x.name, .slice (some ⟨A.next + 1, 0, none⟩) l.length unk, .slice none 0 0, .slice none 0 0, .slice none 0 0, .slice none 0 0, .slice none 0 0, iv (-1), .map (some H.next), .map (some (H.next + 1))] 83 false false := J0b rfl (by show _ < h3.next; omega)
 have b4 : ((h3.fl A.floor).put (H.next + 1 + 1) (SObj.row ([.string x.name, .slice (some ⟨A.next + 1, 0, none⟩) l.length unk, .slice none 0 0, .slice none 0 0, .slice none 0 0, .slice none 0 0, .slice none 0 0, iv (-1)] ++ List.drop 8 [.string ByteArray.empty, .slice none 0 0, .slice none 0 0, .slice none 0 0, .slice none 0 0, .slice none 0 0, .slice none 0 0, iv 0, .map (some H.next), .map (some (H.next + 1))]) 83 false false)).get (H.next + 1 + 1 + 1) = .row [.pointer (some ⟨H.next + 1 + 1, 0, none⟩)] 79 false false := by rw [hgo _ (by omega), g4' _ (by omega)]; exact a4
 have b5 : ((h3.fl A.floor).put (H.next + 1 + 1) (SObj.row ([.string x.name, .slice (some ⟨A.next + 1, 0, none⟩) l.length unk, .slice none 0 0, .slice none 0 0, .slice none 0 0, .slice none 0 0, .slice none 0 0, iv (-1)] ++ List.drop 8 [.string ByteArray.empty, .slice none 0 0, .slice none 0 0, .slice none 0 0, .slice none 0 0, .slice none 0 0, .slice none 0 0, iv 0, .map (some H.next), .map (some (H.next + 1))]) 83 false false)).get (A.next + 1) = .row (l.flatMap J0e) 46 true false := by rw [hgo _ (by omega)]; exact g1
 have nW : ((h3.fl A.floor).put (H.next + 1 + 1) (SObj.row ([.string x.name, .slice (some ⟨A.next + 1, 0, none⟩) l.length unk, .slice none 0 0, .slice none 0 0, .slice none 0 0, .slice none 0 0, .slice none 0 0, iv (-1)] ++ List.drop 8 [.string ByteArray.empty, .slice none 0 0, .slice none 0 0, .slice none 0 0, .slice none 0 0, .slice none 0 0, .slice none 0 0, iv 0, .map (some H.next), .map (some (H.next + 1))]) 83 false false)).next = H.next + 6 := by show h3.next = _; omega
 have fW : ((h3.fl A.floor).put (H.next + 1 + 1) (SObj.row ([.string x.name, .slice (some ⟨A.next + 1, 0, none⟩) l.length unk, .slice none 0 0, .slice none 0 0, .slice none 0 0, .slice none 0 0, .slice none 0 0, iv (-1)] ++ List.drop 8 [.string ByteArray.empty, .slice none 0 0, .slice none 0 0, .slice none 0 0, .slice none 0 0, .slice none 0 0, .slice none 0 0, iv 0, .map (some H.next), .map (some (H.next + 1))]) 83 false false)).floor = H.floor := fB
 generalize (h3.fl A.floor).put (H.next + 1 + 1) (SObj.row ([.string x.name, .slice (some ⟨A.next + 1, 0, none⟩) l.length unk, .slice none 0 0, .slice none 0 0, .slice none 0 0, .slice none 0 0, .slice none 0 0, iv (-1)] ++ List.drop 8 [.string ByteArray.empty, .slice none 0 0, .slice none 0 0, .slice none 0 0, .slice none 0 0, .slice none 0 0, .slice none 0 0, iv 0, .map (some H.next), .map (some (H.next + 1))]) 83 false false) = B at *
 have hvB : J0l B v l := hv.mono (by omega) b0
 obtain ⟨h4, hN, k1, k2, k3, k4⟩ := hends B hvB (by omega)
 have z28 : (Value.slice none 0 0).cells.toList = [.slice none 0 0] := rfl
 have f28 : flat (.slice none 0 0) = true := rfl
 have hst : J0K Tryd.prog (h4.push (.row [.slice none 0 0] 28 false false)) 28 (.pointer (some ⟨h4.next, 0, none⟩)) (.slice (some ⟨B.next, 0, none⟩) l.length l.length) = _ := stc (off := 0) sz28 rfl rfl J0h (by decide) (by show h4.floor ≤ h4.next; omega)
 have c0 : ∀ i, i ≠ h4.next → ((h4.push (.row [.slice none 0 0] 28 false false)).put h4.next (.row ([Value.slice none 0 0].set 0 (.slice (some ⟨B.next, 0, none⟩) l.length l.length)) 28 false false)).get i = h4.get i := fun i hi => by rw [J05 (by show h4.next < h4.next + 1; omega) (Ne.symm hi), J3n hi]
 have c6 : ((h4.push (.row [.slice none 0 0] 28 false false)).put h4.next (.row ([Value.slice none 0 0].set 0 (.slice (some ⟨B.next, 0, none⟩) l.length l.length)) 28 false false)).get h4.next = .row [.slice (some ⟨B.next, 0, none⟩) l.length l.length] 28 false false := J0b rfl (by show h4.next < h4.next + 1; omega)
 have nC : ((h4.push (.row [.slice none 0 0] 28 false false)).put h4.next (.row ([Value.slice none 0 0].set 0 (.slice (some ⟨B.next, 0, none⟩) l.length l.length)) 28 false false)).next = H.next + 8 := by show h4.next + 1 = _; omega
 have fC : ((h4.push (.row [.slice none 0 0] 28 false false)).put h4.next (.row ([Value.slice none 0 0].set 0 (.slice (some ⟨B.next, 0, none⟩) l.length l.length)) 28 false false)).floor = H.floor := by show h4.floor = _; omega
 simp only [evC, seval, ↓evP, rpD, J0X, J2t, t0, hN, Jib, z28, f28, hst]
 generalize (h4.push (.row [.slice none 0 0] 28 false false)).put h4.next (.row ([Value.slice none 0 0].set 0 (.slice (some ⟨B.next, 0, none⟩) l.length l.length)) 28 false false) = C at *
 have l5 : ld1 0 (C.get (H.next + 1 + 1 + 1)) = some (.pointer (some ⟨H.next + 1 + 1, 0, none⟩)) := by rw [c0 _ (by omega), k4 _ (by omega), b4]; rfl
 simp only [evC, seval, ↓evP, rpD, J0X, J2t, J1W, l5, List.map_toArray, bs87]
 have D0 : ∀ (o : SObj) i, i < C.next → (C.push o).get i = C.get i := fun o i hi => J06 hi
 have D6 : ∀ (o : SObj) i, i < B.next → (C.push o).get i = B.get i := fun o i hi => by rw [D0 o i (by omega), c0 i (by omega), k4 i hi]
 have n4 : h4.next = H.next + 7 := by omega
 refine hk _ _ (H.next + 1 + 1) H.next (H.next + 1) B.next (A.next + 1) (H.next + 1 + 1 + 1) h4.next C.next ?_ ?_ ?_ ?_ ?_ ?_ ⟨fun i => if i = H.next + 1 + 1 then 0 else if i = A.next + 1 then 1 else if i = H.next then 8 else if i = H.next + 1 then 9 else if i = B.next then 10 else 11, .slice none 0 0, .slice none 0 0, .slice none 0 0, .slice none 0 0, .slice none 0 0, [], ?_, ?_, ⟨by simp [s0N], by simp [s0N], by simp [s0N], by simp [s0N], rfl, fun t ht => by cases ht⟩, fun i hi => ?_⟩ ⟨?_, ?_, J0h⟩ (by show H.next ≤ C.next + 1; omega) (by show C.floor = H.floor; exact fC) fun i hi => ?_
 ·simp only [evC, seval, ↓evP, rpC, t0]
 ·simp only [evC, seval, ↓evP, rpC]
 ·simp only [evC, seval, ↓evP, rpC]
 ·simp only [evC, seval, ↓evP, rpC]
 ·simp only [evC, seval, ↓evP, rpC]
 ·simp only [evC, seval, ↓evP, rpC]
 ·exact
   { cell := by rw [D6 _ _ (by omega), b3, hnm]; rfl
     pol :=
      { rows := by rw [D6 _ _ (by omega)]; exact b5
        len := rfl
        tr := by rw [if_neg (by omega), if_pos rfl]
        lr := ⟨by omega, by show _ < C.next + 1; omega⟩
        q := J5j
        v := J5j
        t := J5j
        u := J5j
        o := J5j }
     known := by rw [D6 _ _ (by omega)]; exact b1
     many := by rw [D6 _ _ (by omega)]; exact b2
     ends := by rw [D0 _ _ (by omega), c0 _ (by omega)]; exact k1
     tm := if_pos rfl
     tk := by rw [if_neg (by omega), if_neg (by omega), if_pos rfl]
     tc := by rw [if_neg (by omega), if_neg (by omega), if_neg (by omega), if_pos rfl]
     te := by rw [if_neg (by omega), if_neg (by omega), if_neg (by omega), if_neg (by omega), if_pos rfl]
     lm := ⟨by omega, by show _ < C.next + 1; omega⟩
     lk := ⟨Nat.le_refl _, by show _ < C.next + 1; omega⟩
     lc := ⟨by omega, by show _ < C.next + 1; omega⟩
     le := ⟨by omega, by show _ < C.next + 1; omega⟩
     fl := by show C.floor ≤ H.next; omega }
 ·refine ⟨fun p hp => (by cases hp), fun k h1 h4 => ?_⟩
  have : cntN (s0N l) k = 0 := by unfold cntN; (repeat' split) <;> rfl
  rw [if_pos this]
  rfl
 ·have hii : i = H.next + 1 + 1 + 1 ∨ i = h4.next ∨ i = C.next := by simpa using hi
  refine ⟨by show i < C.next + 1; omega, ?_⟩
  show 11 ≤ (if i = H.next + 1 + 1 then 0 else if i = A.next + 1 then 1 else if i = H.next then 8 else if i = H.next + 1 then 9 else if i = B.next then 10 else 11)
  rw [if_neg (by omega), if_neg (by omega), if_neg (by omega), if_neg (by omega), if_neg (by omega)]
  exact Nat.le_refl _
 ·rw [D6 _ _ (by omega)]; exact b4
 ·rw [D0 _ _ (by omega)]; exact c6
 ·rw [D6 _ _ (by omega)]; exact b0 i hi
end
noncomputable def XB16 : Code := inB (J81 Tryd.f16 1)
theorem Out2.mono {a : Nat} {H H' : SHeap} {cs : List Value} {e p : Int} (h : Out2 a H cs e p) (h0 : H'.get a = H.get a) (h1 : H'.get (a + 1) = H.get (a + 1)) : Out2 a H' cs e p := ⟨h0.trans h.1, h1.trans h.2⟩
section
variable {N : Nat} {call : J0r}
theorem J4J {a : Nat} {H : SHeap} {cs : List Value} {e p : Int} (h : Out2 a H cs e p) (hl : cs.length = 8) (ha : a + 1 < H.next) (hf : H.floor ≤ a) {cs' : List Value} (hl' : cs'.length = 8) (ho' : cs'.all one = true) {e' p' : Int} :
  ∃ H', J0K Tryd.prog H 30 (.pointer (some ⟨a, 0, none⟩)) (.agg cs'.toArray) = some (H.put a (.row cs' 30 false false)) ∧ J0K Tryd.prog (H.put a (.row cs' 30 false false)) 33 (.pointer (some ⟨a + 1, 0, none⟩)) (J2k e' p') = some H' ∧
   Out2 a H' cs' e' p' ∧ H'.next = H.next ∧ H'.floor = H.floor ∧ ∀ i, i ≠ a → i ≠ a + 1 → H'.get i = H.get i := by
 have s1 := stW (k := 8) sz30 h.1 hl hl' ho' hf
 have hb : (H.put a (.row cs' 30 false false)).get (a + 1) = .row [iv e, iv p] 33 false false := by rw [J05 (by omega) (by omega)]; exact h.2
 have s2 := stW (t := 33) (k := 2) sz33 (vs := [iv e', iv p']) hb rfl rfl rfl (by show H.floor ≤ a + 1; omega)
 refine ⟨_, s1, s2, ⟨?_, J0b rfl (by show a + 1 < H.next; omega)⟩, rfl, rfl, fun i hi hi' => ?_⟩
 ·rw [J05 (by show a + 1 < H.next; omega) (by omega)]
  exact J0b rfl (by omega)
 ·rw [J05 (by show a + 1 < H.next; omega) (by omega), J05 (by omega) (by omega)]
set_option maxHeartbeats 4000000 in
theorem Jc2 {at_ a fl lo m k c e r n : Nat} {nm : ByteArray} {E : List Int} {F : List Nat} {er : Nat → Int} {st : Nat → StN} {T : Tr} {H : SHeap} {K : Kont} {fs : List Value}
  (t2 : T.get 2 = .pointer (some ⟨a, 0, none⟩)) (t3 : T.get 3 = .pointer (some ⟨a + 1, 0, none⟩)) (t7 : T.get 7 = .slice (some ⟨fl, 0, none⟩) 3 3) (t44 : T.get 44 = iv at_)
  (hN : 3 < N) (hp : MkE H lo m k c e r n nm E F (st 0)) (ha : a + 1 < lo) (hlo : lo ≤ H.next) (hout : Out2 a H [.string ByteArray.empty, .slice none 0 0, .slice none 0 0, .slice none 0 0, .slice none 0 0, .slice none 0 0, .slice none 0 0, iv 0] 0 0) (hfa : H.floor ≤ a) (hfl : H.get fl = .row fs 86 false false) (hFl : fl ∈ F)
  (hlook : ∀ i, i < 3 → ∀ H1, MkE H1 lo m k c e r n nm E F (st i) → J2W H H1 lo F → (∀ j, j < i → er j = 0) → ∃ fid first cap H2, fs[i]? = some (.func (.func fid) first cap) ∧ call fid (first.toList ++ [iv at_] ++ cap.toList) H1 = some (iv (er i), H2) ∧ J2W H1 H2 lo F ∧ (er i = 0 → MkE H2 lo m k c e r n nm E F (st (i + 1))))
  (hbad : ∀ i, i < 3 → er i ≠ 0 → (∀ j, j < i → er j = 0) → ∀ T' H', T'.get 2 = .pointer (some ⟨a, 0, none⟩) → T'.get 3 = .pointer (some ⟨a + 1, 0, none⟩) → Out2 a H' [.string ByteArray.empty, .slice none 0 0, .slice none 0 0, .slice none 0 0, .slice none 0 0, .slice none 0 0, .slice none 0 0, iv 0] (er i) at_ → H.next ≤ H'.next → H'.floor = H.floor → (∀ i, i < a → H'.get i = H.get i) → K.ap Tryd.prog call N .ret ⟨T', H'⟩)
  (hgood : (∀ j, j < 3 → er j = 0) → ∀ T' H', (∀ t, t ≤ 7 ∨ (42 ≤ t ∧ t ≤ 44) → T'.get t = T.get t) → MkE H' lo m k c e r n nm E F (st 3) → J2W H H' lo F → K.ap Tryd.prog call N .normal ⟨T', H'⟩) :
  WK Tryd.prog call N XB16 ⟨T, H⟩ K := by
 show WK _ _ _ (.seq _ (.seq _ (.block 2 (.loop (.seq _ (.seq _ (.seq (.block 3 _) _))))))) _ _
 simp only [evC, ↓reduceIte, Nat.reduceEqDiff, reduceCtorEq, ↓evP, t7, t44, Jj3]
 refine WK.loop (fun i s' => s'.T.get 47 = .slice (some ⟨fl, 0, none⟩) 3 3 ∧ s'.T.get 48 = iv 3 ∧ s'.T.get 49 = iv i ∧ s'.T.get 8 = iv at_ ∧ i ≤ 3 ∧ (∀ t, t ≤ 7 ∨ (42 ≤ t ∧ t ≤ 44) → s'.T.get t = T.get t) ∧ MkE s'.h lo m k c e r n nm E F (st i) ∧ J2W H s'.h lo F ∧ ∀ j, j < i → er j = 0) 3 hN ?_ ?_
 ·refine ⟨by simp only [evC, ↓reduceIte, Nat.reduceEqDiff, reduceCtorEq, ↓evP, rpC, Nat.reduceAdd, Nat.reduceLT], by simp only [evC, ↓reduceIte, Nat.reduceEqDiff, reduceCtorEq, ↓evP, rpC, Nat.reduceAdd, Nat.reduceLT]; rfl, by simp only [evC, ↓reduceIte, Nat.reduceEqDiff, reduceCtorEq, ↓evP, rpC, Nat.reduceAdd, Nat.reduceLT]; rfl, by simp only [evC, ↓reduceIte, Nat.reduceEqDiff, reduceCtorEq, ↓evP, rpC, Nat.reduceAdd, Nat.reduceLT], by omega, fun t ht => ?_, hp, ⟨fun _ _ => rfl, Nat.le_refl _, rfl⟩, fun j hj => by omega⟩
  simp only [Tr.get_put, Option.some.injEq]
  repeat rw [if_neg (by omega)]
 ·rintro i ⟨T1, H1⟩ hi ⟨t47, t48, t49, t8, hi3, hkeep, hp1, haf, hz⟩
  simp only at t47 t48 t49 t8 hkeep hp1 haf
  have t2' : T1.get 2 = .pointer (some ⟨a, 0, none⟩) := (hkeep 2 (by omega)).trans t2
  have t3' : T1.get 3 = .pointer (some ⟨a + 1, 0, none⟩) := (hkeep 3 (by omega)).trans t3
  by_cases hlt : i < 3
  ·have c1 : decide ((i : Int) < 3) = true := by simp; omega
   obtain ⟨fid, first, cap, H2, hfi, hcall, haf2, hmk⟩ := hlook i hlt H1 hp1 haf hz
   have hfl1 : H1.get fl = .row fs 86 false false := (haf.1 fl (.inr hFl)).trans hfl
   have lf : ld1 i (H1.get fl) = some (.func (.func fid) first cap) := by rw [hfl1]; exact hfi
   have hix := Jj0 (h := H1) (id := fl) (c := 3) hlt
   cases d : (er i != 0) with
   | true =>
    have e0 : er i ≠ 0 := by simpa using d
    have n2 : H.next ≤ H2.next := Nat.le_trans haf.2.1 haf2.2.1
    have f2 : H2.floor = H.floor := haf2.2.2.trans haf.2.2
    have o2 : ∀ i, i < lo → H2.get i = H.get i := fun i hi => (haf2.1 i (.inl hi)).trans (haf.1 i (.inl hi))
    have hout2 : Out2 a H2 [.string ByteArray.empty, .slice none 0 0, .slice none 0 0, .slice none 0 0, .slice none 0 0, .slice none 0 0, .slice none 0 0, iv 0] 0 0 := hout.mono (o2 a (by omega)) (o2 (a + 1) ha)
    obtain ⟨H', s1, s2, r1, r2, r3, r4⟩ := J4J hout2 rfl (by omega) (by omega) (cs' := [.string ByteArray.empty, .slice none 0 0, .slice none 0 0, .slice none 0 0, .slice none 0 0, .slice none 0 0, .slice none 0 0, iv 0]) rfl rfl (e' := er i) (p' := at_)
    simp only [evC, seval, ↓evP, t47, t48, t49, t8, t2', t3', c1, hix, Jdi, lf, List.toList_toArray, hcall, d, J28, J4G, s1, s2]
    refine hbad i hlt e0 hz _ _ ?_ ?_ r1 (by omega) (r3.trans f2) fun j hj => (r4 j (by omega) (by omega)).trans (o2 j (by omega))
    ·simp only [evC, seval, ↓evP, rpC, t2']
    ·simp only [evC, seval, ↓evP, rpC, t3']
   | false =>
    have e0 : er i = 0 := by simpa using d
    have w1 : IntKind.i64.wrap ((i : Int) + 1) = ((i + 1 : Nat) : Int) := J0s (by omega) (by omega)
    simp only [evC, seval, ↓evP, t47, t48, t49, t8, t2', t3', c1, hix, Jdi, lf, List.toList_toArray, hcall, d, w1]
    refine ⟨hlt, by omega, fun t ht => ?_, hmk e0, ⟨fun i hi => (haf2.1 i hi).trans (haf.1 i hi), Nat.le_trans haf.2.1 haf2.2.1, haf2.2.2.trans haf.2.2⟩, fun j hj => ?_⟩
    ·repeat rw [if_neg (by omega)]
     exact hkeep t ht
    ·rcases Nat.lt_or_ge j i with h1 | h1
     ·exact hz j h1
     ·have : j = i := by omega
      subst this
      exact e0
  ·have c1 : decide ((i : Int) < 3) = false := by simp; omega
   have : i = 3 := by omega
   subst this
   simp only [evC, seval, ↓evP, t47, t48, t49, c1]
   refine hgood hz _ _ (fun t ht => ?_) hp1 haf
   simp only [Tr.get_put, Option.some.injEq]
   repeat rw [if_neg (by omega)]
   exact hkeep t ht
end
theorem JeL (k : Int) (h : SHeap) (hk : 1 ≤ k ∧ k ≤ 54) : L0 79 [iv k] h = some (iv (J0j k), h) := J0I rfl rfl rfl rfl (J1I J8L hk)
theorem JdA (k : Int) (h : SHeap) (hk : 1 ≤ k ∧ k ≤ 54) : L0 81 [iv k] h = some (iv (J1O k), h) := J0I rfl rfl rfl rfl (J1I Jdc hk)
theorem JfH (k : Int) (h : SHeap) (hk : 1 ≤ k ∧ k ≤ 54) : L0 82 [iv k] h = some (.bool (J0E k), h) := J0I rfl rfl rfl rfl (J1I J9M hk)
theorem J7P {at_ : Nat} {end_ : Int} {x : RowN} {s : StN} (hx : s.rows[at_]? = some x) : ∃ n, (J0W at_ end_ x s).rows[at_]? = some { x with n := n } := by
 rw [J8O]
 split
 ·exact ⟨x.n, hx⟩
 ·exact ⟨_, J4g hx⟩
def erN (at_ : Nat) (end_ : Int) (x x1 x2 : RowN) (s : StN) : Nat → Int
 | 0 => J25 x s
 | 1 => J1v at_ x1 (J0W at_ end_ x s)
 | _ => evE x2 (J0D at_ x1 (J0W at_ end_ x s))
def stN (at_ : Nat) (end_ : Int) (x x1 x2 : RowN) (s : StN) : Nat → StN
 | 0 => s
 | 1 => J0W at_ end_ x s
 | 2 => J0D at_ x1 (J0W at_ end_ x s)
 | _ => evS at_ x2 (J0D at_ x1 (J0W at_ end_ x s))
theorem Jgq {E : List Int} {at_ : Nat} {end_ : Int} {x x1 x2 : RowN} {s : StN} (hx : s.rows[at_]? = some x) (hE : E[at_]? = some end_) (h1 : (J0W at_ end_ x s).rows[at_]? = some x1) (h2 : J1v at_ x1 (J0W at_ end_ x s) = 0 → (J0D at_ x1 (J0W at_ end_ x s)).rows[at_]? = some x2) :
  (∀ i, i < 3 → erN at_ end_ x x1 x2 s i ≠ 0 → (∀ j, j < i → erN at_ end_ x x1 x2 s j = 0) → J31 E at_ s = (erN at_ end_ x x1 x2 s i, s)) ∧ ((∀ j, j < 3 → erN at_ end_ x x1 x2 s j = 0) → J31 E at_ s = (0, stN at_ end_ x x1 x2 s 3)) := by
 have hEx : (E[at_]?).getD 0 = end_ := by rw [hE]; rfl
 constructor
 ·intro i hi he hz
  unfold J31
  rw [hx]
  simp only [hEx]
  match i, hi, he, hz with
  | 0, _, he, _ =>
   have he : J25 x s ≠ 0 := he
   rw [if_pos he]
   rfl
  | 1, _, he, hz =>
   have h0 : J25 x s = 0 := hz 0 (by omega)
   have he : J1v at_ x1 (J0W at_ end_ x s) ≠ 0 := he
   rw [if_neg (by simpa using h0), h1]
   simp only
   rw [if_pos he]
   rfl
  | 2, _, he, hz =>
   have h0 : J25 x s = 0 := hz 0 (by omega)
   have hc : J1v at_ x1 (J0W at_ end_ x s) = 0 := hz 1 (by omega)
   have he : evE x2 (J0D at_ x1 (J0W at_ end_ x s)) ≠ 0 := he
   rw [if_neg (by simpa using h0), h1]
   simp only
   rw [if_neg (by simpa using hc), h2 hc]
   simp only
   rw [if_pos he]
   rfl
 ·intro hz
  have h0 : J25 x s = 0 := hz 0 (by omega)
  have hc : J1v at_ x1 (J0W at_ end_ x s) = 0 := hz 1 (by omega)
  have he : evE x2 (J0D at_ x1 (J0W at_ end_ x s)) = 0 := hz 2 (by omega)
  unfold J31
  rw [hx]
  simp only [hEx]
  rw [if_neg (by simpa using h0), h1]
  simp only
  rw [if_neg (by simpa using hc), h2 hc]
  simp only
  rw [if_neg (by simpa using he)]
  rfl
section
variable {n lo m k c e r L : Nat} {h : SHeap} {nm : ByteArray} {E : List Int} {F : List Nat} {s : StN}
theorem Jha {at_ : Nat} {end_ : Int} {x : RowN} (hp : MkE h lo m k c e r L nm E F s) (hx : s.rows[at_]? = some x) (hkind : 1 ≤ x.kind ∧ x.kind ≤ 54) (hL : L < 1099511627776) (he : 0 ≤ end_) (hn : 0 < n) :
  ∃ h', J0T n 51 [.pointer (some ⟨m, 0, none⟩), iv at_, iv end_] h = some (iv (J25 x s), h') ∧ (J2W h h' lo F ∧ (J25 x s = 0 → MkE h' lo m k c e r L nm E F (J0W at_ end_ x s))) := by
 obtain ⟨n, rfl⟩ : ∃ j, n = j + 1 := ⟨n - 1, by omega⟩
 exact k_wr (J13 ⟨rfl, rfl, rfl⟩) (Jcy (J1z n).2 hp hx hkind hL he (fun k h' hk => J2Z (J1M (JeL k h' hk))) fun k h' => J2Z (Jf8 k h'))
theorem JfZ {at_ : Nat} {x : RowN} (hp : MkE h lo m k c e r L nm E F s) (hx : s.rows[at_]? = some x) (hkind : 1 ≤ x.kind ∧ x.kind ≤ 54) (hL : L < 1099511627776) (hn : 0 < n) :
  ∃ h', J0T n 52 [.pointer (some ⟨m, 0, none⟩), iv at_] h = some (iv (J1v at_ x s), h') ∧ (J2W h h' lo F ∧ (J1v at_ x s = 0 → MkE h' lo m k c e r L nm E F (J0D at_ x s))) := by
 obtain ⟨n, rfl⟩ : ∃ j, n = j + 1 := ⟨n - 1, by omega⟩
 exact k_wr (J13 ⟨rfl, rfl, rfl⟩) (JcI (J1z n).2 hp hx hkind hL fun k h' hk => J2Z (J1M (JdA k h' hk)))
theorem Jfk {at_ : Nat} {x : RowN} (hp : MkE h lo m k c e r L nm E F s) (hx : s.rows[at_]? = some x) (hkind : 1 ≤ x.kind ∧ x.kind ≤ 54) (hL : L < 1099511627776) (hxn : J0E x.kind = true → x.kind ≠ 10 → 0 ≤ x.n ∧ x.n < s.on.length) (hn : 0 < n) :
  ∃ h', J0T n 53 [.pointer (some ⟨m, 0, none⟩), iv at_] h = some (iv (evE x s), h') ∧ (J2W h h' lo F ∧ (evE x s = 0 → MkE h' lo m k c e r L nm E F (evS at_ x s))) := by
 obtain ⟨n, rfl⟩ : ∃ j, n = j + 1 := ⟨n - 1, by omega⟩
 exact k_wr (J13 ⟨rfl, rfl, rfl⟩) (Jc9 (J1z n).2 hp hx hkind hL hxn fun k h' hk => J2Z (J1M (JfH k h' hk)))
theorem JgR {at_ c5 c6 : Nat} {end_ : Int} {x : RowN} (hp : MkE h lo m k c e r L nm E F s) (hx : s.rows[at_]? = some x) (hkind : 1 ≤ x.kind ∧ x.kind ≤ 54) (hL : L < 1099511627776) (he : 0 ≤ end_) (hE : E[at_]? = some end_) (hlE : L = E.length)
  (h5 : h.get c5 = .row [.pointer (some ⟨m, 0, none⟩)] 79 false false) (h6 : h.get c6 = .row [.slice (some ⟨e, 0, none⟩) L L] 28 false false) (hn : 1 < n) :
  ∃ h', J0T n 50 [iv at_, .pointer (some ⟨c5, 0, none⟩), .pointer (some ⟨c6, 0, none⟩)] h = some (iv (J25 x s), h') ∧ (J2W h h' lo F ∧ (J25 x s = 0 → MkE h' lo m k c e r L nm E F (J0W at_ end_ x s))) := by
 obtain ⟨n, rfl⟩ : ∃ j, n = j + 1 := ⟨n - 1, by omega⟩
 obtain ⟨tag, vq, vv, vt, vu, vo, es, hp', _⟩ := id hp
 obtain ⟨h', hc, ha, hm⟩ := Jha (n := n) (at_ := at_) hp hx hkind hL he (by omega)
 exact k_wr (J13 ⟨rfl, rfl, rfl⟩) (JbK (J1z n).2 h5 h6 hp'.ends hE hlE ⟨h', hc, ha.2.2, ha, hm⟩)
theorem Jh3 {l : List RowN} {at_ c5 c6 fl : Nat} {x x1 : RowN} {H : SHeap} (ht : J2c l) (hL : l.length < 900000000) (hat : at_ < l.length) (hi : InvR l at_ s) (hx : s.rows[at_]? = some x) (h1 : (J0W at_ (endN l at_) x s).rows[at_]? = some x1) (hcl : CellsP H m e c5 c6 fl l.length (J0o l)) (h5 : c5 ∈ F) (h6 : c6 ∈ F) (hfl : fl ∈ F) (hn : 3 < n) :
  ∃ x2, (J1v at_ x1 (J0W at_ (endN l at_) x s) = 0 → (J0D at_ x1 (J0W at_ (endN l at_) x s)).rows[at_]? = some x2) ∧ ∀ i, i < 3 → ∀ H1, MkE H1 lo m k c e r l.length nm (J0o l) F (stN at_ (endN l at_) x x1 x2 s i) → J2W H H1 lo F → (∀ j, j < i → erN at_ (endN l at_) x x1 x2 s j = 0) →
   ∃ fid first cap H2, ([.func (.func 50) #[] #[.pointer (some ⟨c5, 0, none⟩), .pointer (some ⟨c6, 0, none⟩)], .func (.func 52) #[.pointer (some ⟨m, 0, none⟩)] #[], .func (.func 53) #[.pointer (some ⟨m, 0, none⟩)] #[]] : List Value)[i]? = some (.func (.func fid) first cap) ∧
    J0T n fid (first.toList ++ [iv at_] ++ cap.toList) H1 = some (iv (erN at_ (endN l at_) x x1 x2 s i), H2) ∧ J2W H1 H2 lo F ∧ (erN at_ (endN l at_) x x1 x2 s i = 0 → MkE H2 lo m k c e r l.length nm (J0o l) F (stN at_ (endN l at_) x x1 x2 s (i + 1))) := by
 have hkind := J68 ht hi x (List.mem_of_getElem? hx)
 obtain ⟨n1, hx1⟩ := J7P (end_ := endN l at_) hx
 rw [h1] at hx1
 cases hx1
 obtain ⟨x2, hx2⟩ : ∃ x2, J1v at_ { x with n := n1 } (J0W at_ (endN l at_) x s) = 0 → (J0D at_ { x with n := n1 } (J0W at_ (endN l at_) x s)).rows[at_]? = some x2 ∧ (∃ n, x2 = { x with n := n }) ∧ (x2.kind ≠ 10 → J0E x2.kind = true → WfS (J0D at_ { x with n := n1 } (J0W at_ (endN l at_) x s)) → 0 ≤ x2.n ∧ x2.n < (J0D at_ { x with n := n1 } (J0W at_ (endN l at_) x s)).on.length) := by
  by_cases hc : J1v at_ { x with n := n1 } (J0W at_ (endN l at_) x s) = 0
  ·obtain ⟨n2, a1, a2, a3, a4, a5, a6⟩ := J6j h1 hc
   refine ⟨_, fun _ => ⟨a1, ⟨n2, rfl⟩, fun h10 hev hw => ?_⟩⟩
   have hd := J6v (k := x.kind) hev h10
   rcases a6 with ⟨b1, _⟩ | ⟨t, b1, b2, b3, _⟩
   ·have b1 : J1O x.kind = 0 := b1
    rw [hd.1] at b1
    cases b1
   ·have b2 : t.kind = J1O x.kind := b2
    rw [hd.1] at b2
    rw [← a5] at b1
    obtain ⟨_, _, q1, q2, _⟩ := hw.th t b1
    rw [b2] at q2
    have q3 : t.num < ((J0D at_ { x with n := n1 } (J0W at_ (endN l at_) x s)).queues.length : Int) := q2
    rw [← hw.o] at q3
    simp only
    rw [b3]
    exact ⟨q1, q3⟩
  ·exact ⟨x, fun h => absurd h hc⟩
 refine ⟨x2, fun h => (hx2 h).1, ?_⟩
 intro i hi3 H1 hp haf hz
 have hEat : (J0o l)[at_]? = some (endN l at_ : Int) := J2B hat
 match i, hi3 with
 | 0, _ =>
  have g5 : H1.get c5 = _ := (haf.1 c5 (.inr h5)).trans hcl.h5
  have g6 : H1.get c6 = _ := (haf.1 c6 (.inr h6)).trans hcl.h6
  obtain ⟨H2, q1, q2, q3⟩ := JgR (n := n) (s := s) (at_ := at_) hp hx hkind (by omega) (by omega) hEat (by rw [J39]) g5 g6 (by omega)
  exact ⟨_, #[], #[.pointer (some ⟨c5, 0, none⟩), .pointer (some ⟨c6, 0, none⟩)], H2, rfl, q1, q2, q3⟩
 | 1, _ =>
  obtain ⟨H2, q1, q2, q3⟩ := JfZ (n := n) (s := J0W at_ (endN l at_) x s) (at_ := at_) hp h1 hkind (by omega) (by omega)
  exact ⟨_, #[.pointer (some ⟨m, 0, none⟩)], #[], H2, rfl, q1, q2, q3⟩
 | 2, _ =>
  have hc : J1v at_ { x with n := n1 } (J0W at_ (endN l at_) x s) = 0 := hz 1 (by omega)
  obtain ⟨r1, ⟨n2, r2⟩, r3⟩ := hx2 hc
  have hw : WfS (J0D at_ { x with n := n1 } (J0W at_ (endN l at_) x s)) := by
   obtain ⟨_, _, _, _, _, _, _, _, _, hw, _⟩ := id hp
   exact hw
  obtain ⟨H2, q1, q2, q3⟩ := Jfk (n := n) (s := J0D at_ { x with n := n1 } (J0W at_ (endN l at_) x s)) (at_ := at_) hp r1 (by rw [r2]; exact hkind) (by omega) (fun a b => r3 b a hw) (by omega)
  exact ⟨_, #[.pointer (some ⟨m, 0, none⟩)], #[], H2, rfl, q1, q2, q3⟩
end
end Go.Proofs.YtipekdhneagdbaaDoor
