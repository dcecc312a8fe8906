/- Part 16 of what the claim leans on: 6 texts laid one behind another. -/
import Derived.Test.YtipekdhneagdbaaDoorB15
/- Resolving rows, as a J4o function; what holds all along. -/
namespace Go.Proofs.YtipekdhneagdbaaDoor
open Go Go.Sx
set_option linter.unusedSimpArgs false
set_option linter.unusedVariables false

def s0N (l : List RowN) : StN := ⟨l, [], [], [], [], [], -1, []⟩
/-- One row gone through: the error, or what is noted now. -/
def J31 (E : List Int) (at_ : Nat) (s : StN) : Int × StN :=
  match s.rows[at_]? with
  | none => (0, s)
  | some x =>
    if J25 x s ≠ 0 then (J25 x s, s) else
    match (J0W at_ ((E[at_]?).getD 0) x s).rows[at_]? with
    | none => (0, s)
    | some x1 =>
      if J1v at_ x1 (J0W at_ ((E[at_]?).getD 0) x s) ≠ 0 then (J1v at_ x1 (J0W at_ ((E[at_]?).getD 0) x s), s) else
      match (J0D at_ x1 (J0W at_ ((E[at_]?).getD 0) x s)).rows[at_]? with
      | none => (0, s)
      | some x2 => if evE x2 (J0D at_ x1 (J0W at_ ((E[at_]?).getD 0) x s)) ≠ 0 then (evE x2 (J0D at_ x1 (J0W at_ ((E[at_]?).getD 0) x s)), s)
        else (0, evS at_ x2 (J0D at_ x1 (J0W at_ ((E[at_]?).getD 0) x s)))
/-- The rows from a place on. -/
def goN (E : List Int) : Nat → Nat → StN → Int × Nat × StN
  | 0, at_, s => (0, at_, s)
  | r + 1, at_, s => if (J31 E at_ s).1 ≠ 0 then ((J31 E at_ s).1, at_, s) else goN E r (at_ + 1) (J31 E at_ s).2
/-- The fault (none: 0 and 0), and what is noted. -/
noncomputable def resN (l : List RowN) : (Int × Int) × StN :=
  if (J0v l).1 ≠ 0 then (J0v l, s0N l) else
  let g := goN (J0o l) l.length 0 (s0N l)
  if g.1 ≠ 0 then ((g.1, (g.2.1 : Int)), s0N l) else
  let b := J2K g.2.2.rows (J0o l) g.2.2.rules
  if b ≥ 0 then ((34, b), s0N l) else ((0, 0), g.2.2)

theorem SubT.fit {l : List RowN} {at_ q : Nat} (h : SubT l at_ q) : ∃ x, l[at_]? = some x ∧ fitN J09 x = true := by
  rcases h with ⟨m, what, h⟩ | ⟨rfl, m, h⟩
  · cases m with
    | zero => cases h
    | succ m =>
      cases hx : l[at_]? with
      | none => rw [J6M hx] at h; cases h
      | some x =>
        rw [J5l hx] at h
        split at h
        · rename_i hc
          simp only [Bool.and_eq_true] at hc
          exact ⟨x, rfl, hc.2⟩
        · cases h
  · cases hx : l[0]? with
    | none => rw [J6T hx] at h; cases h
    | some x =>
      rw [J5q hx] at h
      split at h
      · rename_i hc
        simp only [Bool.and_eq_true] at hc
        exact ⟨x, rfl, hc.2⟩
      · cases h
theorem J2c.row {l : List RowN} (h : J2c l) {i : Nat} {x : RowN} (hx : l[i]? = some x) : fitN J09 x = true ∧ (1 ≤ x.kind ∧ x.kind ≤ 54) ∧ J1U x.kind ≤ x.kids ∧ i + 1 + x.kids.toNat ≤ endN l i ∧ endN l i ≤ l.length := by
  have hi := (List.getElem?_eq_some_iff.1 hx).1
  have hs := h.end hi
  obtain ⟨y, hy, h1⟩ := hs.fit
  obtain ⟨z, hz, h2, h3, h4⟩ := hs.kids
  rw [hx] at hy hz
  cases hy
  cases hz
  refine ⟨h1, h3, ?_, J2o _ _ _ h4, hs.lt.2⟩
  unfold fitN at h1
  simp only [Bool.and_eq_true, decide_eq_true_eq] at h1
  omega

theorem J6v {k : Int} (h : J0E k = true) (h10 : k ≠ 10) : J1O k = 1 ∧ J0j k = 0 := by
  unfold J0E at h
  simp only [Bool.and_eq_true, decide_eq_true_eq] at h
  obtain rfl | rfl : k = 8 ∨ k = 9 := by omega
  · exact ⟨rfl, rfl⟩
  · exact ⟨rfl, rfl⟩
theorem J4M {l : List RowN} {k i : Nat} {n : Int} (h : i ≠ k) : (setN l k n)[i]? = l[i]? := by
  unfold setN
  split
  · rw [List.getElem?_set_ne (Ne.symm h)]
  · rfl
/-- What holds ahead of a row. -/
structure InvR (l : List RowN) (at_ : Nat) (s : StN) : Prop where
  wf : WfS s
  len : s.rows.length = l.length
  same : ∀ (i : Nat) (x : RowN), s.rows[i]? = some x → ∃ y : RowN, l[i]? = some y ∧ x = { y with n := x.n }
  later : ∀ i : Nat, at_ ≤ i → s.rows[i]? = l[i]?
  rl : ∀ ru ∈ s.rules, 0 ≤ ru ∧ ru < l.length
  calls : ∀ (i : Nat) (x : RowN), i < at_ → s.rows[i]? = some x → x.kind = 22 → 0 ≤ x.n ∧ x.n < s.rules.length
theorem inv0 (l : List RowN) : InvR l 0 (s0N l) where
  wf := ⟨by simp [s0N], by simp [s0N], by simp [s0N], by simp [s0N], rfl, fun t ht => by simp [s0N] at ht⟩
  len := rfl
  same := fun i x hx => ⟨x, hx, rfl⟩
  later := fun _ _ => rfl
  rl := fun ru h => by simp [s0N] at h
  calls := fun i x h => by omega
theorem J8O {at_ : Nat} {end_ : Int} {x : RowN} {s : StN} : (J0W at_ end_ x s).rows = if J0j x.kind = 0 then s.rows else setN s.rows at_ (cntN s (J0j x.kind)) := by
  unfold J0W
  split <;> rfl
theorem J8w {l : List ThN} {x : ByteArray} {t : ThN} (h : J30 l x = some t) : t ∈ l := List.mem_of_find?_eq_some h
/-- What a row declares is noted: what holds still does, up to the row itself. -/
theorem JeZ {l : List RowN} {E : List Int} {at_ : Nat} {s : StN} {x : RowN} (ht : J2c l) (hE : 0 ≤ (E[at_]?).getD 0) (hi : InvR l at_ s) (hx : s.rows[at_]? = some x) (hd : J25 x s = 0) :
    WfS (J0W at_ ((E[at_]?).getD 0) x s) ∧ (J0W at_ ((E[at_]?).getD 0) x s).rows.length = l.length ∧ (∃ n, (J0W at_ ((E[at_]?).getD 0) x s).rows[at_]? = some { x with n := n }) ∧ (∀ i, i ≠ at_ → (J0W at_ ((E[at_]?).getD 0) x s).rows[i]? = s.rows[i]?) ∧
    (∀ ru ∈ (J0W at_ ((E[at_]?).getD 0) x s).rules, 0 ≤ ru ∧ ru < l.length) ∧ s.rules.length ≤ (J0W at_ ((E[at_]?).getD 0) x s).rules.length := by
  have hxl : l[at_]? = some x := by rw [← hi.later at_ (Nat.le_refl _)]; exact hx
  unfold J0W
  unfold J25 at hd
  by_cases d0 : J0j x.kind = 0
  · rw [if_pos d0]
    exact ⟨hi.wf, hi.len, ⟨x.n, hx⟩, fun _ _ => rfl, hi.rl, Nat.le_refl _⟩
  · rw [if_neg d0] at hd ⊢
    have hne : (cntN s (J0j x.kind) : Int) ≠ J3g (J0j x.kind) := fun h => by
      split at hd
      · cases hd
      · omega
    refine ⟨JcU hi.wf d0 hne hE, ?_, ⟨_, J4g hx⟩, fun i hne => J4M hne, fun ru hru => ?_, ?_⟩
    · exact J4N.trans hi.len
    · simp only [addN] at hru
      split at hru
      · rename_i h4
        simp only [List.mem_append, List.mem_cons, List.not_mem_nil, or_false] at hru
        rcases hru with h | rfl
        · exact hi.rl ru h
        · have := ht.row hxl
          have h7 : x.kind = 7 := by
            revert h4
            unfold J0j
            (repeat' split) <;> simp_all
          have hl7 : J1U x.kind = 0 ∨ 0 < J1U x.kind := by have := J4a x.kind; omega
          have h1 : J1U x.kind = 1 := by rw [h7]; rfl
          omega
      · exact hi.rl ru hru
    · simp only [addN]
      split
      · simp
      · exact Nat.le_refl _
theorem J6b {l : List RowN} {E : List Int} {at_ : Nat} {s : StN} (ht : J2c l) (hE : 0 ≤ (E[at_]?).getD 0) (hat : at_ < l.length) (hi : InvR l at_ s) (h0 : (J31 E at_ s).1 = 0) : InvR l (at_ + 1) (J31 E at_ s).2 := by
  obtain ⟨x, hx⟩ : ∃ x, s.rows[at_]? = some x := ⟨_, List.getElem?_eq_getElem (by rw [hi.len]; exact hat)⟩
  have hxl : l[at_]? = some x := by rw [← hi.later at_ (Nat.le_refl _)]; exact hx
  unfold J31 at h0 ⊢
  rw [hx] at h0 ⊢
  simp only at h0 ⊢
  by_cases hd : J25 x s = 0
  case neg => rw [if_pos hd] at h0; exact absurd h0 hd
  rw [if_neg (by simpa using hd)] at h0 ⊢
  obtain ⟨w1, n1, ⟨k1, r1⟩, o1, u1, c1⟩ := JeZ ht hE hi hx hd
  generalize J0W at_ ((E[at_]?).getD 0) x s = s1 at *
  rw [r1] at h0 ⊢
  simp only at h0 ⊢
  by_cases hc : J1v at_ { x with n := k1 } s1 = 0
  case neg => rw [if_pos hc] at h0; exact absurd h0 hc
  rw [if_neg (by simpa using hc)] at h0 ⊢
  have hcall : WfS (J0D at_ { x with n := k1 } s1) ∧ (J0D at_ { x with n := k1 } s1).rows.length = l.length ∧ (∃ n, (J0D at_ { x with n := k1 } s1).rows[at_]? = some { x with n := n } ∧ (x.kind = 22 → 0 ≤ n ∧ n < s1.rules.length) ∧ (J1O x.kind = 1 → 0 ≤ n ∧ n < s1.on.length)) ∧
      (∀ i, i ≠ at_ → (J0D at_ { x with n := k1 } s1).rows[i]? = s1.rows[i]?) ∧ (J0D at_ { x with n := k1 } s1).rules = s1.rules ∧ (J0D at_ { x with n := k1 } s1).on = s1.on := by
    unfold J0D
    unfold J1v at hc
    by_cases d0 : J1O x.kind = 0
    · rw [if_pos d0]
      refine ⟨w1, n1, ⟨k1, r1, fun h => ?_, fun h => by omega⟩, fun _ _ => rfl, rfl, rfl⟩
      rw [h] at d0
      cases d0
    · rw [if_neg d0] at hc ⊢
      cases hf : J30 s1.things x.name with
      | none => simp only [hf] at hc; cases hc
      | some t =>
        simp only [hf] at hc ⊢
        have htm := w1.th t (J8w hf)
        have hk : t.kind = J1O x.kind := by
          split at hc
          · cases hc
          · split at hc
            · cases hc
            · rename_i h; simpa using h
        refine ⟨⟨w1.q, w1.v, w1.t, w1.u, w1.o, w1.th⟩, J4N.trans n1, ⟨t.num, (J4g r1).trans rfl, fun h => ?_, fun h => ?_⟩, fun i hne => J4M hne, trivial, trivial⟩
        · have h4 : t.kind = 4 := by rw [hk, h]; rfl
          rw [h4] at htm
          exact ⟨htm.2.2.1, htm.2.2.2.1⟩
        · rw [hk, h] at htm
          rw [w1.o]
          exact ⟨htm.2.2.1, htm.2.2.2.1⟩
  obtain ⟨w2, n2, ⟨k2, r2, q2, e2⟩, o2, u2, v2⟩ := hcall
  generalize J0D at_ { x with n := k1 } s1 = s2 at *
  rw [r2] at h0 ⊢
  simp only at h0 ⊢
  by_cases hv : evE { x with n := k2 } s2 = 0
  case neg => rw [if_pos hv] at h0; exact absurd h0 hv
  rw [if_neg (by simpa using hv)] at h0 ⊢
  have hev : WfS (evS at_ { x with n := k2 } s2) ∧ (evS at_ { x with n := k2 } s2).rows = s2.rows ∧ (evS at_ { x with n := k2 } s2).rules = s2.rules := by
    unfold evS
    split
    · exact ⟨w2, rfl, rfl⟩
    · split
      · exact ⟨⟨w2.q, w2.v, w2.t, w2.u, w2.o, w2.th⟩, rfl, rfl⟩
      · exact ⟨⟨w2.q, w2.v, w2.t, w2.u, by simp only [List.length_set]; exact w2.o, w2.th⟩, rfl, rfl⟩
  obtain ⟨w3, r3, u3⟩ := hev
  refine ⟨w3, by rw [r3]; exact n2, fun i y hy => ?_, fun i hi' => ?_, by rw [u3, u2]; exact u1, fun i y hi' hy h22 => ?_⟩
  · rw [r3] at hy
    by_cases hia : i = at_
    · subst hia
      rw [r2] at hy
      cases hy
      exact ⟨x, hxl, rfl⟩
    · rw [o2 i hia, o1 i hia] at hy
      exact hi.same i y hy
  · rw [r3, o2 i (by omega), o1 i (by omega)]
    exact hi.later i (by omega)
  · rw [r3] at hy
    rw [u3, u2]
    by_cases hia : i = at_
    · subst hia
      rw [r2] at hy
      cases hy
      exact q2 h22
    · rw [o2 i hia, o1 i hia] at hy
      have := hi.calls i y (by omega) hy h22
      omega
theorem JfJ {l : List RowN} {E : List Int} (ht : J2c l) (hE : ∀ i : Nat, 0 ≤ (E[i]?).getD 0) : ∀ r at_ s, at_ + r = l.length → InvR l at_ s → (goN E r at_ s).1 = 0 → InvR l l.length (goN E r at_ s).2.2
  | 0, at_, s, hr, hi, _ => by
    have : at_ = l.length := by omega
    subst this
    exact hi
  | r + 1, at_, s, hr, hi, h0 => by
    unfold goN at h0 ⊢
    by_cases h : (J31 E at_ s).1 = 0
    · rw [if_neg (by simpa using h)] at h0 ⊢
      exact JfJ ht hE r (at_ + 1) _ (by omega) (J6b ht (hE at_) (by omega) hi h) h0
    · rw [if_pos h] at h0
      exact absurd h0 h
theorem J3T {l : List RowN} (i : Nat) : 0 ≤ ((J0o l)[i]?).getD 0 := by
  by_cases hi : i < l.length
  · rw [J2B hi]
    simp
  · rw [List.getElem?_eq_none (by rw [J39]; omega)]
    simp
theorem J8n {l : List RowN} {s : StN} (ht : J2c l) (hlen : l.length < 1099511627) (hi : InvR l l.length s) : Laying s.rows (J0o l) s.rules where
  len := by rw [hi.len]; exact hlen
  e := by rw [J39, hi.len]
  ends := fun i h => by
    rw [hi.len] at h
    have := (ht.end h).lt
    exact ⟨endN l i, J2B h, by omega, by rw [hi.len]; omega⟩
  rl := fun ru h => by rw [hi.len]; exact hi.rl ru h
  nrules := by have := hi.wf.u; omega
  calls := fun x hx h22 => by
    obtain ⟨i, hil, rfl⟩ := List.getElem_of_mem hx
    exact hi.calls i _ (by rw [← hi.len]; exact hil) (List.getElem?_eq_getElem hil) h22
theorem J68 {l : List RowN} {at_ : Nat} {s : StN} (ht : J2c l) (hi : InvR l at_ s) : ∀ x ∈ s.rows, 1 ≤ x.kind ∧ x.kind ≤ 54 := fun x hx => by
  obtain ⟨i, hil, rfl⟩ := List.getElem_of_mem hx
  obtain ⟨y, hy, he⟩ := hi.same i _ (List.getElem?_eq_getElem hil)
  rw [he]
  exact (ht.row hy).2.1
theorem Jfw {l : List RowN} {at_ : Nat} {s : StN} (ht : J2c l) (hi : InvR l at_ s) : ∀ i x, s.rows[i]? = some x → J0E x.kind = true → i + 1 < s.rows.length := fun i x hx hev => by
  obtain ⟨y, hy, he⟩ := hi.same i _ hx
  have h1 := ht.row hy
  rw [he] at hev
  have hk : J1U y.kind = 1 := by
    unfold J0E at hev
    simp only [Bool.and_eq_true, decide_eq_true_eq] at hev
    obtain h | h | h : y.kind = 8 ∨ y.kind = 9 ∨ y.kind = 10 := by omega
    all_goals (rw [h]; rfl)
  rw [hi.len]
  omega
end Go.Proofs.YtipekdhneagdbaaDoor
/- Rows cloned; the three looks at one row: walked. -/
namespace Go.Proofs.YtipekdhneagdbaaDoor
open Go Go.Sx
set_option maxRecDepth 100000
set_option linter.unusedSimpArgs false
set_option linter.unusedVariables false

theorem J4y (l : List RowN) : (l.flatMap J0e).all one = true := by
  rw [List.all_eq_true]
  intro v hv
  rw [List.mem_flatMap] at hv
  obtain ⟨r, _, hv⟩ := hv
  simp only [J0e, List.mem_cons, List.not_mem_nil, or_false] at hv
  rcases hv with rfl | rfl | rfl | rfl | rfl <;> rfl
theorem J7J {α : Type} (l : List α) (a b : Nat) : l.take (a + b) = l.take a ++ (l.drop a).take b := List.take_add
/-- The cells of rows that lie in a row. -/
theorem J5N : ∀ (l : List RowN) (cs : List Value) (off : Nat), (∀ k r, l[k]? = some r → (cs.drop (off + k * 5)).take 5 = J0e r) → (cs.drop off).take (l.length * 5) = l.flatMap J0e
  | [], cs, off, _ => by simp
  | r :: l, cs, off, h => by
    have h0 := h 0 r rfl
    rw [Nat.zero_mul, Nat.add_zero] at h0
    have ih := J5N l cs (off + 5) fun k r' hk => by
      have := h (k + 1) r' hk
      rw [← this]
      congr 2
      omega
    rw [List.length_cons, show (l.length + 1) * 5 = 5 + l.length * 5 by omega, J7J, h0, List.drop_drop, ih, List.flatMap_cons]
theorem J0l.src {h : SHeap} {v : Value} {l : List RowN} (hv : J0l h v l) : J16 h 5 l.length v = some (l.flatMap J0e) := by
  obtain ⟨a, c, rfl, ⟨rfl, rfl⟩ | ⟨id, off, cs, ty, g, ro, rfl, hg, hid, hc⟩⟩ := hv
  · rfl
  · have := J5N l cs off hc
    have hl := J0N l
    simp only [J16, hg, cut, this, hl, if_true]
    by_cases h0 : l.length = 0
    · rw [if_pos h0, List.length_eq_zero_iff.1 h0]
      rfl
    · rw [if_neg h0]
section
variable {call : J0r} {N : Nat} {h : SHeap}
theorem Jby {l : List RowN} {v : Value} (hv : J0l h v l) (hne : 0 < l.length) (hlen : l.length < 1099511627) : ∃ h', J0L Tryd.prog call N 48 [v] h = some (.slice (some ⟨h.next + 1, 0, none⟩) l.length unk, h') ∧ (h'.get (h.next + 1) = .row (l.flatMap J0e) 46 true false ∧ h'.next = h.next + 2 ∧ h'.floor = h.floor ∧ ∀ i, i < h.next → h'.get i = h.get i) := by
  refine J1N (R := fun h' => h'.get (h.next + 1) = .row (l.flatMap J0e) 46 true false ∧ h'.next = h.next + 2 ∧ h'.floor = h.floor ∧ ∀ i, i < h.next → h'.get i = h.get i) Tryd.func48 rfl (by simp [Tryd.f48]) ?_
  have hr : Tryd.f48.results.toList = [.tmp 2] := rfl
  have hsrc := (hv.mono (h' := h.push (.row [] 46 false false)) (by show h.next ≤ h.next + 1; omega) fun i hi => J06 hi).src
  obtain ⟨a, c, rfl, h1⟩ := hv
  obtain ⟨id, off, rfl⟩ : ∃ id off, a = some ⟨id, off, none⟩ := by
    rcases h1 with ⟨h1, _⟩ | ⟨id, off, _, _, _, _, h2, _⟩
    · rw [h1] at hne; exact absurd hne (by simp)
    · exact ⟨id, off, h2⟩
  have hb : binS Tryd.prog .eql 22 (.tmp 3) (.const (.slice none 0 0)) (.slice (some ⟨id, off, none⟩) l.length c) (.slice none 0 0) = some (.bool false) := by
    have hf : flat (.slice (some ⟨id, off, none⟩) l.length c) = false := rfl
    simp only [binS, hf, Bool.false_and, Bool.false_eq_true, if_false, Tryd.underlying22]
  have hbs : J0Q Tryd.prog h 22 0 [] = some (.slice (some ⟨h.next, 0, none⟩) 0 0, h.push (.row [] 46 false false)) := by
    simp [J0Q, Tryd.underlying22, sz46, J40, flat, J1i, J0G, J5k, J3e]
  have hzs : (Value.agg #[.int .i64 0, .string ByteArray.empty, .int .i64 0, .int .i64 0, .int .i64 0]).cells.size = 5 := rfl
  have hap : J1o Tryd.prog (h.push (.row [] 46 false false)) 22 (.slice (some ⟨h.next, 0, none⟩) 0 0) (.slice (some ⟨id, off, none⟩) l.length c) = some (.slice (some ⟨h.next + 1, 0, none⟩) l.length unk, (h.push (.row [] 46 false false)).push (.row (l.flatMap J0e) 46 true false)) := by
    have hu : (0 : Nat) ≠ unk := by unfold unk; omega
    have e1 : ¬ (l.length ≤ 0) := by omega
    have e2 : l.length * 48 ≤ 140737488355328 := by omega
    have e3 : l.length ≤ 140737488355328 := by omega
    have h0 : J16 (h.push (.row [] 46 false false)) 5 0 (.slice (some ⟨h.next, 0, none⟩) 0 0) = some [] := by simp [J16]
    simp only [J1o, Tryd.underlying22, sz46, by46, J40, hzs, hsrc, J4y, hu, h0, e1, e2, e3, decide_true, beq_self_eq_true, Bool.and_self, if_true, if_false, Nat.le_refl, Nat.zero_add, Nat.zero_mul, Nat.zero_le, List.nil_append, show (0 < 5) = True by simp, J1D]
  simp only [evC, sop, J00, J01, evs, resS, resV, ↓reduceIte, Nat.reduceEqDiff, reduceCtorEq, ↓evP, hr, hb, hbs, hap]
  refine ⟨?_, rfl, rfl, fun i hi => ?_⟩
  · exact J0h (h := h.push (.row [] 46 false false))
  · rw [J06 (by show i < h.next + 1; omega), J06 hi]

noncomputable def JhI : Array Oper := J18 Tryd.f50 1
def fs50 : List (Bool × Bool × List Operand) := [(false, true, []), (false, true, [.tmp 1]), (false, true, [.tmp 1]), (false, true, [.tmp 1, .tmp 2]), (false, true, [.tmp 1]), (false, true, [.tmp 1]), (false, false, []), (false, false, [])]
theorem JgV : J1E JhI = fs50 := by kernel_rfl
theorem JbK (hsn : J1G call) {at_ m e c5 c6 n ce : Nat} {E : List Int} {y v : Int} {g5 g6 ge : Bool} {R : SHeap → Prop} (h5 : h.get c5 = .row [.pointer (some ⟨m, 0, none⟩)] 79 g5 false) (h6 : h.get c6 = .row [.slice (some ⟨e, 0, none⟩) n ce] 28 g6 false) (he : h.get e = .row (ints E) 3 ge false) (hy : E[at_]? = some y) (hn : n = E.length)
    (hc : ∃ h', call 51 [.pointer (some ⟨m, 0, none⟩), iv at_, iv y] h = some (iv v, h') ∧ (h'.floor = h.floor ∧ R h')) : ∃ h', J0L Tryd.prog call N 50 [iv at_, .pointer (some ⟨c5, 0, none⟩), .pointer (some ⟨c6, 0, none⟩)] h = some (iv v, h') ∧ R h' := by
  refine J1N (R := R) Tryd.func50 rfl (by simp [Tryd.f50]) ?_
  have hr : Tryd.f50.results.toList = [.tmp 4] := rfl
  obtain ⟨h', hc, hf, hR⟩ := hc
  have hat : at_ < n := by rw [hn]; exact (List.getElem?_eq_some_iff.1 hy).1
  have hfx : h'.fl h.floor = h' := by rw [← hf]; exact J6L h'
  have lE := J2z (ty := 3) (g := ge) (ro := false) hy
  simp only [evC, sop, J00, J01, evs, resS, resV, ↓reduceIte, Nat.reduceEqDiff, reduceCtorEq, ↓evP]
  show WK _ _ _ (.region _ _ true) _ _
  refine WK.flags (ops := JhI) JgV ?_
  refine WKF.begin ?_
  refine wst hsn 0 (some 5) (.load 79 (.tmp 1)) (none) (by kernel_rfl) rfl ?_
  simp only [rgC, sop, ↓reduceIte, Nat.reduceEqDiff, reduceCtorEq, J04, J02, Nat.reduceAdd, WKFC, rgL, J00, Tr.get_set, J0H, J1W, J0n, J0m, h5, h6, J1d, J1F hat, he, lE, hc, hfx]
  refine wst hsn 1 (some 6) (.move (.tmp 0)) (none) (by kernel_rfl) rfl ?_
  simp only [rgC, sop, ↓reduceIte, Nat.reduceEqDiff, reduceCtorEq, J04, J02, Nat.reduceAdd, WKFC, J00, Tr.get_set, J0H, J1W, J0n, J0m, h5, h6, J1d, J1F hat, he, lE, hc, hfx]
  refine wst hsn 2 (some 7) (.load 28 (.tmp 2)) (none) (by kernel_rfl) rfl ?_
  simp only [rgC, sop, ↓reduceIte, Nat.reduceEqDiff, reduceCtorEq, J04, J02, Nat.reduceAdd, WKFC, rgL, J00, Tr.get_set, J0H, J1W, J0n, J0m, h5, h6, J1d, J1F hat, he, lE, hc, hfx]
  refine wst hsn 3 (some 8) (.move (.tmp 0)) (none) (by kernel_rfl) rfl ?_
  simp only [rgC, sop, ↓reduceIte, Nat.reduceEqDiff, reduceCtorEq, J04, J02, Nat.reduceAdd, WKFC, J00, Tr.get_set, J0H, J1W, J0n, J0m, h5, h6, J1d, J1F hat, he, lE, hc, hfx]
  refine wst hsn 4 (some 9) (.indexAddr 28 (.tmp 7) (.tmp 8)) (none) (by kernel_rfl) rfl ?_
  simp only [rgC, sop, ↓reduceIte, Nat.reduceEqDiff, reduceCtorEq, J04, J02, Nat.reduceAdd, WKFC, Nat.zero_add, J00, Tr.get_set, J0H, J1W, J0n, J0m, h5, h6, J1d, J1F hat, he, lE, hc, hfx]
  refine wst hsn 5 (some 10) (.load 3 (.tmp 9)) (none) (by kernel_rfl) rfl ?_
  simp only [rgC, sop, ↓reduceIte, Nat.reduceEqDiff, reduceCtorEq, J04, J02, Nat.reduceAdd, WKFC, rgL, J00, Tr.get_set, J0H, J1W, J0n, J0m, h5, h6, J1d, J1F hat, he, lE, hc, hfx]
  refine wst hsn 6 (some 11) (.call { callee := .value (.func 51), args := #[.tmp 5, .tmp 6, .tmp 10], argTypes := #[79, 3, 3] }) (none) (by kernel_rfl) rfl ?_
  simp only [rgC, sop, ↓reduceIte, Nat.reduceEqDiff, reduceCtorEq, J04, J02, Nat.reduceAdd, WKFC, J01, evs, rgK, J00, Tr.get_set, J0H, J1W, J0n, J0m, h5, h6, J1d, J1F hat, he, lE, hc, hfx]
  refine wst hsn 7 (some 4) (.assign (.tmp 11)) (none) (by kernel_rfl) rfl ?_
  simp only [rgC, sop, ↓reduceIte, Nat.reduceEqDiff, reduceCtorEq, J04, J02, Nat.reduceAdd, WKFC, J00, Tr.get_set, J0H, J1W, J0n, J0m, h5, h6, J1d, J1F hat, he, lE, hc, hfx]
  refine WKF.done (i := 8) (by kernel_rfl) ?_
  simp only [evC, sop, J00, J01, evs, resS, resV, ↓reduceIte, Nat.reduceEqDiff, reduceCtorEq, ↓evP, hr]
  exact hR
end
end Go.Proofs.YtipekdhneagdbaaDoor
/- Rows that are a tree: each row's parent; the levels told by parents are those told by the recursion. -/
namespace Go.Proofs.YtipekdhneagdbaaDoor
open Go Go.Sx
set_option linter.unusedSimpArgs false
set_option linter.unusedVariables false

theorem J4b {l : List RowN} : ∀ k a b c, J35 l k a b → SubT l b c → J35 l (k + 1) a c
  | 0, a, b, c, h, hs => by
    have : a = b := h
    subst this
    exact ⟨c, hs, hs.lt.1, hs.lt.2, rfl⟩
  | k + 1, a, b, c, ⟨p, h1, h2, h3, h4⟩, hs => ⟨p, h1, h2, h3, J4b k p b c h4 hs⟩
theorem J3w {l : List RowN} : ∀ k r a q, J35 l (k + r) a q → ∃ b, J35 l k a b ∧ J35 l r b q
  | 0, r, a, q, h => ⟨a, rfl, by rwa [Nat.zero_add] at h⟩
  | k + 1, r, a, q, h => by
    rw [show k + 1 + r = (k + r) + 1 by omega] at h
    obtain ⟨p, h1, h2, h3, h4⟩ := h
    obtain ⟨b, h5, h6⟩ := J3w k r p q h4
    exact ⟨b, ⟨p, h1, h2, h3, h5⟩, h6⟩
theorem J2e {l : List RowN} : ∀ k a b c, J35 l k a b → J35 l k a c → b = c
  | 0, a, b, c, h, h' => (show a = b from h).symm.trans (show a = c from h')
  | k + 1, a, b, c, ⟨p, h1, _, _, h4⟩, ⟨p', g1, _, _, g4⟩ => by
    have : p = p' := SubT.unique l.length a (by omega) h1 g1
    subst this
    exact J2e k p b c h4 g4
theorem J67 {l : List RowN} {a b c : Nat} : ∀ k j, k < j → J35 l k a b → J35 l j a c → b < c := fun k j hkj h h' => by
  obtain ⟨b', h1, h2⟩ := J3w k (j - k) a c (by rw [show k + (j - k) = j by omega]; exact h')
  have := J2e k a b b' h h1
  subst this
  have := J2o _ _ _ h2
  omega
/-- i is the k-th kid of p. -/
def J3I (l : List RowN) (p k i : Nat) : Prop := ∃ x, l[p]? = some x ∧ k < x.kids.toNat ∧ J35 l k (p + 1) i
theorem J3I.lt {l : List RowN} {p k i : Nat} (h : J3I l p k i) : p < i := by
  obtain ⟨x, _, _, h3⟩ := h
  have := J2o _ _ _ h3
  omega
theorem J3I.sub {l : List RowN} (ht : J2c l) {p k i : Nat} (h : J3I l p k i) : ∃ q, SubT l i q ∧ q ≤ endN l p ∧ i < l.length := by
  obtain ⟨x, hx, hk, hc⟩ := h
  have hs := ht.end (List.getElem?_eq_some_iff.1 hx).1
  obtain ⟨y, hy, _, _, hch⟩ := hs.kids
  rw [hx] at hy
  cases hy
  obtain ⟨r, hr⟩ : ∃ r, x.kids.toNat = k + (r + 1) := ⟨x.kids.toNat - k - 1, by omega⟩
  rw [hr] at hch
  obtain ⟨b, h1, q, h2, h3, h4, h5⟩ := J3w _ _ _ _ hch
  have := J2e _ _ _ _ hc h1
  subst this
  have := J2o _ _ _ h5
  exact ⟨q, h2, by omega, by omega⟩
/-- What lies in a kid's own, lies behind its start and ahead of the next one's. -/
theorem J7C {l : List RowN} : ∀ (r a q j : Nat), J35 l r a q → a ≤ j → j < q → ∃ k b c, k < r ∧ J35 l k a b ∧ SubT l b c ∧ b ≤ j ∧ j < c
  | 0, a, q, j, h, h1, h2 => by have : a = q := h; omega
  | r + 1, a, q, j, ⟨p, s, h3, h4, h5⟩, h1, h2 => by
    rcases Nat.lt_or_ge j p with h6 | h6
    · exact ⟨0, a, p, by omega, rfl, s, h1, h6⟩
    · obtain ⟨k, b, c, k1, k2, k3, k4, k5⟩ := J7C r p q j h5 h6 h2
      exact ⟨k + 1, b, c, by omega, ⟨p, s, h3, h4, k2⟩, k3, k4, k5⟩
theorem J3I.unique {l : List RowN} (ht : J2c l) {p k i p' k' : Nat} (h : J3I l p k i) (h' : J3I l p' k' i) : p = p' ∧ k = k' := by
  have key : ∀ {p k i p' k' : Nat}, J3I l p k i → J3I l p' k' i → ¬ p < p' := by
    intro p k i p' k' h h' hlt
    have hi := h'.lt
    obtain ⟨qi, si, hqi, _⟩ := h'.sub ht
    have hsi := si.lt
    obtain ⟨x, hx, hk, hc⟩ := h
    have hs := ht.end (List.getElem?_eq_some_iff.1 hx).1
    obtain ⟨y, hy, _, _, hch⟩ := hs.kids
    rw [hx] at hy
    cases hy
    have hp' : p' < l.length := by
      obtain ⟨x', hx', _⟩ := h'
      exact (List.getElem?_eq_some_iff.1 hx').1
    have he' := (ht.end hp').lt
    obtain ⟨r, hr⟩ : ∃ r, x.kids.toNat = k + (r + 1) := ⟨x.kids.toNat - k - 1, by omega⟩
    have hkc := hch
    rw [hr] at hkc
    obtain ⟨b0, g1, g2⟩ := J3w _ _ _ _ hkc
    have := J2e _ _ _ _ hc g1
    subst this
    have hle := J2o _ _ _ g2
    obtain ⟨j, b, c, j1, j2, j3, j4, j5⟩ := J7C _ _ _ p' hch hlt (by omega)
    obtain ⟨q', s1, s2⟩ := SubT.cover (c - b) (by have := j3.lt; omega) j3 p' j4 j5
    have hee := J5P s1
    -- i lies in (b, c), and is the start of the k-th kid
    rcases Nat.lt_trichotomy k j with hkj | hkj | hkj
    · have := J67 k j hkj hc j2
      omega
    · subst hkj
      have := J2e _ _ _ _ hc j2
      omega
    · have hj1 := J4b j _ _ _ j2 j3
      rcases Nat.lt_or_ge (j + 1) k with h9 | h9
      · have := J67 (j + 1) k h9 hj1 hc
        omega
      · have : j + 1 = k := by omega
        subst this
        have := J2e _ _ _ _ hj1 hc
        omega
  have hpp : p = p' := by
    have h1 := key h h'
    have h2 := key h' h
    omega
  subst hpp
  refine ⟨rfl, ?_⟩
  obtain ⟨_, _, _, hc⟩ := h
  obtain ⟨_, _, _, hc'⟩ := h'
  rcases Nat.lt_trichotomy k k' with h1 | h1 | h1
  · have := J67 _ _ h1 hc hc'; omega
  · exact h1
  · have := J67 _ _ h1 hc' hc; omega
theorem SubT.parent {l : List RowN} : ∀ (n : Nat) {a q : Nat}, q ≤ a + n → SubT l a q → ∀ i, a < i → i < q → ∃ p k, J3I l p k i ∧ a ≤ p
  | 0, a, q, hn, h, i, h1, h2 => by have := h.lt; omega
  | n + 1, a, q, hn, h, i, h1, h2 => by
    obtain ⟨x, hx, _, _, hc⟩ := h.kids
    obtain ⟨k, b, c, k1, k2, k3, k4, k5⟩ := J7C _ _ _ i hc h1 h2
    rcases Nat.eq_or_lt_of_le k4 with rfl | h6
    · exact ⟨a, k, ⟨x, hx, k1, k2⟩, Nat.le_refl _⟩
    · have hb := J2o _ _ _ k2
      obtain ⟨r, hr⟩ : ∃ r, x.kids.toNat = (k + 1) + r := ⟨x.kids.toNat - (k + 1), by omega⟩
      rw [hr] at hc
      obtain ⟨c', g1, g2⟩ := J3w _ _ _ _ hc
      have := J2e _ _ _ _ (J4b _ _ _ _ k2 k3) g1
      subst this
      have := J2o _ _ _ g2
      obtain ⟨p, k', h7, h8⟩ := SubT.parent n (by omega) k3 i h6 k5
      exact ⟨p, k', h7, by omega⟩
theorem J2c.parent {l : List RowN} (ht : J2c l) {i : Nat} (h0 : 0 < i) (h1 : i < l.length) : ∃ p k, J3I l p k i := by
  obtain ⟨p, k, h, _⟩ := SubT.parent l.length (by omega) ht i h0 h1
  exact ⟨p, k, h⟩

/-! ### Levels -/
/-- So many levels are open ahead of each row's own kids. -/
structure IsOpen (l : List RowN) (O : List Int) : Prop where
  top : ∀ x, l[0]? = some x → O[0]? = some (J1s x.kind)
  kid : ∀ p k i x y o, J3I l p k i → l[p]? = some x → l[i]? = some y → O[p]? = some o → O[i]? = some (o + J2i (J1f x.kind) (J1f y.kind) k + J1s y.kind)
def J6X (O : List Int) (a b : Nat) (M : Int) : Prop := (∀ i x, a ≤ i → i < b → O[i]? = some x → x ≤ M) ∧ ∃ i, a ≤ i ∧ i < b ∧ O[i]? = some M
theorem J6X.join {O : List Int} {a b c : Nat} {M M' : Int} (h : J6X O a b M) (h' : J6X O b c M') (hab : a ≤ b) (hbc : b ≤ c) : J6X O a c (if M' > M then M' else M) := by
  obtain ⟨h1, i, h2, h3, h4⟩ := h
  obtain ⟨g1, j, g2, g3, g4⟩ := h'
  refine ⟨fun t x t1 t2 t3 => ?_, ?_⟩
  · rcases Nat.lt_or_ge t b with hb | hb
    · have := h1 t x t1 hb t3
      split <;> omega
    · have := g1 t x hb t2 t3
      split <;> omega
  · split
    · exact ⟨j, by omega, g3, g4⟩
    · exact ⟨i, h2, by omega, h4⟩
theorem J6X.unique {O : List Int} {a b : Nat} {M M' : Int} (h : J6X O a b M) (h' : J6X O a b M') : M = M' := by
  obtain ⟨h1, i, h2, h3, h4⟩ := h
  obtain ⟨g1, j, g2, g3, g4⟩ := h'
  have := h1 j _ g2 g3 g4
  have := g1 i _ h2 h3 h4
  omega
theorem Jgn {l : List RowN} {O : List Int} (hO : IsOpen l O) : ∀ (m at_ q : Nat) (x : RowN) (o : Int), SubT l at_ q → l.length < at_ + m → l[at_]? = some x → O[at_]? = some o →
    J6X O at_ q (o - J1s x.kind + (levN l m at_).1) ∧ (levN l m at_).2 = q := by
  intro m
  induction m with
  | zero => intro at_ q x o hs hm hx; have := hs.lt; omega
  | succ m ih =>
    intro at_ q x o hs hm hx ho
    obtain ⟨y, hy, _, _, hc⟩ := hs.kids
    rw [hx] at hy
    cases hy
    have key : ∀ r k most next, k + r = x.kids.toNat → J35 l k (at_ + 1) next → J35 l r next q → J6X O at_ next (o + most) → J6X O at_ q (o + (levL (levN l m) l x.kind r k most next).1) ∧ (levL (levN l m) l x.kind r k most next).2 = q := by
      intro r
      induction r with
      | zero =>
        intro k most next hk h1 h2 h3
        have : next = q := h2
        subst this
        exact ⟨h3, rfl⟩
      | succ r ihr =>
        intro k most next hk h1 ⟨p', s1, s2, s3, s4⟩ h3
        have hn1 := J2o _ _ _ h1
        obtain ⟨z, hz, _, _, _⟩ := s1.kids
        have hz' := hO.kid at_ k next x z o ⟨x, hx, by omega, h1⟩ hx hz ho
        obtain ⟨a1, a2⟩ := ih next p' z _ s1 (by omega) hz hz'
        unfold levL
        rw [hz]
        simp only
        rw [a2]
        refine ihr (k + 1) _ p' (by omega) (J4b _ _ _ _ h1 s1) s4 ?_
        have h4 := h3.join a1 (by omega) (by omega)
        have e1 : o + J2i (J1f x.kind) (J1f z.kind) k + J1s z.kind - J1s z.kind + (levN l m next).1 = o + ((levN l m next).1 + J2i (J1f x.kind) (J1f z.kind) k) := by omega
        rw [e1] at h4
        refine cast ?_ h4
        congr 1
        split <;> split <;> omega
    have h0 := key x.kids.toNat 0 0 (at_ + 1) (by omega) rfl hc ⟨fun i v h1 h2 h3 => by
        have : i = at_ := by omega
        subst this
        rw [ho] at h3
        cases h3
        omega, at_, Nat.le_refl _, by omega, by rw [ho]; congr 1; omega⟩
    unfold levN
    rw [hx]
    refine ⟨?_, h0.2⟩
    refine cast ?_ h0.1
    congr 1
    simp only
    omega
end Go.Proofs.YtipekdhneagdbaaDoor
/- One reading of all calls, by fuel alone: what a call lays is forgotten where it answers plainly and leaves all that was as it was. -/
namespace Go.Proofs.YtipekdhneagdbaaDoor
open Go Go.Sx
set_option maxRecDepth 100000
set_option linter.unusedSimpArgs false
set_option linter.unusedVariables false

/-- Functions that write what there was: nothing of theirs is forgotten. -/
def wrK : List FuncId := [51, 52, 53, 50, 57, 58, 60, 18, 23, 70, 37, 36]
open Classical in
noncomputable def J73 (call : J0r) : J0r := fun f args h => match call f args h with
  | some (v, h1) => if wrK.contains f = false ∧ J3m v = true ∧ ∀ i, i < h.next → h1.get i = h.get i then some (v, h) else some (v, h1)
  | none => none
theorem J7j {call : J0r} {f : FuncId} {args : List Value} {h h' : SHeap} {v : Value} (hs : J73 call f args h = some (v, h')) : J8V call f args h = some (v, h') ∨ call f args h = some (v, h') := by
  unfold J73 at hs
  split at hs
  · rename_i v' h1 he
    split at hs
    · rename_i hc
      cases hs
      exact .inl (Ja6 he hc.2.1 hc.2.2)
    · cases hs
      exact .inr he
  · cases hs
theorem JeB {P : Program} {call : J0r} (hc : J1x P call ∧ J1G call) : J1x P (J73 call) ∧ J1G (J73 call) := by
  have hk := JaL hc.1
  refine ⟨fun f args h v h' hs => ?_, fun f args h v h' hs => ?_⟩
  · rcases J7j hs with h1 | h1
    · exact hk.1 _ _ _ _ _ h1
    · exact hc.1 _ _ _ _ _ h1
  · rcases J7j hs with h1 | h1
    · exact hk.2 _ _ _ _ _ h1
    · exact hc.2 _ _ _ _ _ h1
section
variable {call : J0r} {n : Nat} {h : SHeap}
theorem J9h {P K : Int} {k : Nat} {a b : Int} (hP : a ≤ 7) (hb7 : 0 ≤ b ∧ b ≤ 7) (ha0 : 0 ≤ a) (ha : call 116 [iv P] h = some (iv a, h)) (hb : call 116 [iv K] h = some (iv b, h)) : J0L Tryd.prog call n 104 [iv P, iv k, iv K] h = some (.bool (J4q a b k), h) := by
  refine J1m Tryd.func104 rfl (by simp [Tryd.f104]) ?_
  have hr : Tryd.f104.results.toList = [.tmp 6] := rfl
  unfold J4q
  by_cases a0 : a = 0
  · subst a0
    have e : (if b = 0 then false else if 1 ≤ (0 : Int) ∧ (0 : Int) ≤ 5 then (decide (b < 0) || (b == 0 && ((k : Int) == 1 || (0 : Int) == 3))) else if (0 : Int) = 6 then decide (b < 6) else false) = false := by
      split
      · rfl
      · rw [if_neg (by omega), if_neg (by omega)]
    rw [e]
    simp only [evC, sop, J00, J01, evs, resS, resV, ↓reduceIte, Nat.reduceEqDiff, reduceCtorEq, ↓evP, rpC, Nat.reduceAdd, Nat.reduceLT, hr, ha, hb]
  have c0 : (a == 0) = false := by simpa using a0
  by_cases b0 : b = 0
  · subst b0
    simp only [evC, sop, J00, J01, evs, resS, resV, ↓reduceIte, Nat.reduceEqDiff, reduceCtorEq, ↓evP, rpC, Nat.reduceAdd, Nat.reduceLT, hr, ha, hb, c0]
  have c1 : (b == 0) = false := by simpa using b0
  rw [if_neg b0]
  by_cases a7 : a = 7
  · subst a7
    rw [if_neg (by omega), if_neg (by omega)]
    simp only [evC, sop, J00, J01, evs, resS, resV, ↓reduceIte, Nat.reduceEqDiff, reduceCtorEq, ↓evP, rpC, Nat.reduceAdd, Nat.reduceLT, hr, ha, hb, c1, show ((7 : Int) == 0) = false from rfl]
  have c2 : (a == 7) = false := by simpa using a7
  by_cases a6 : a = 6
  · subst a6
    rw [if_neg (by omega), if_pos rfl]
    simp only [evC, sop, J00, J01, evs, resS, resV, ↓reduceIte, Nat.reduceEqDiff, reduceCtorEq, ↓evP, rpC, Nat.reduceAdd, Nat.reduceLT, hr, ha, hb, c1, show ((6 : Int) == 0) = false from rfl, show ((6 : Int) == 7) = false from rfl]
  have c3 : (a == 6) = false := by simpa using a6
  rw [if_pos (by omega)]
  cases d1 : decide (b < a) with
  | true => simp only [evC, sop, J00, J01, evs, resS, resV, ↓reduceIte, Nat.reduceEqDiff, reduceCtorEq, ↓evP, rpC, Nat.reduceAdd, Nat.reduceLT, hr, ha, hb, c0, c1, c2, c3, d1, Bool.true_or]
  | false =>
    cases d2 : (b == a) with
    | false => simp only [evC, sop, J00, J01, evs, resS, resV, ↓reduceIte, Nat.reduceEqDiff, reduceCtorEq, ↓evP, rpC, Nat.reduceAdd, Nat.reduceLT, hr, ha, hb, c0, c1, c2, c3, d1, d2, Bool.false_or, Bool.false_and]
    | true =>
      cases d3 : ((k : Int) == 1) with
      | true => simp only [evC, sop, J00, J01, evs, resS, resV, ↓reduceIte, Nat.reduceEqDiff, reduceCtorEq, ↓evP, rpC, Nat.reduceAdd, Nat.reduceLT, hr, ha, hb, c0, c1, c2, c3, d1, d2, d3, Bool.false_or, Bool.true_or]
      | false => simp only [evC, sop, J00, J01, evs, resS, resV, ↓reduceIte, Nat.reduceEqDiff, reduceCtorEq, ↓evP, rpC, Nat.reduceAdd, Nat.reduceLT, hr, ha, hb, c0, c1, c2, c3, d1, d2, d3, Bool.false_or]
theorem J7K (k : Int) : 0 ≤ J1f k ∧ J1f k ≤ 7 := by unfold J1f; (repeat' split) <;> omega
theorem Jdq (k : Int) (h : SHeap) (hk : 1 ≤ k ∧ k ≤ 54) : L0 116 [iv k] h = some (iv (J1f k), h) := J0I rfl rfl rfl rfl (J1I JeC hk)
theorem JcA (P Q : Int) (k : Nat) (h : SHeap) (hP : 1 ≤ P ∧ P ≤ 54) (hQ : 1 ≤ Q ∧ Q ≤ 54) : L1 104 [iv P, iv k, iv Q] h = some (.bool (J4q (J1f P) (J1f Q) k), h) :=
  J0I (J20 rfl rfl) rfl rfl rfl ⟨_, J9h (J7K P).2 (J7K Q) (J7K P).1 (J55 (Jdq P _ hP)) (J55 (Jdq Q _ hQ))⟩
/-- The document's check of one row by itself, as a layer. -/
noncomputable def L3 : J0r := layD [100] L2 12
theorem Jhz : J1x Tryd.prog L3 ∧ J1G L3 := J9p Jjr
end
noncomputable def J0T : Nat → J0r
  | 0 => L3
  | n + 1 => orS L3 (J73 (J0L Tryd.prog (J0T n) n))
theorem J1z : ∀ n, J1x Tryd.prog (J0T n) ∧ J1G (J0T n)
  | 0 => Jhz
  | n + 1 => Jav Jhz (JeB (J6m J2f (J1z n).1 (J1z n).2 n))
section
variable {n : Nat} {f : FuncId} {args : List Value} {h h1 : SHeap} {v : Value} {r : Value × SHeap}
theorem Jip (hb : L3 f args h = some r) : J0T n f args h = some r := by
  cases n with
  | zero => exact hb
  | succ n => exact Ja4 hb
theorem k_up (hb : L2 f args h = some r) : J0T n f args h = some r := Jip (J1M hb)
theorem J2Z (hb : L1 f args h = some r) : J0T n f args h = some r := k_up (J6k hb)
theorem J13 (hf : ([90, 118, 109, 79, 81, 82, 31, 32, 59,
  116, 113, 112, 101, 102, 115, 99, 93, 105, 107,
  124, 125, 89] : List Nat).contains f = false ∧ ([108, 104, 111, 80, 87, 83, 62] : List Nat).contains f = false ∧ ([91, 114, 100] : List Nat).contains f = false) : L3 f args h = none := by
  have h3 := hf.2.2
  simp only [List.contains_cons, List.contains_nil, Bool.or_false, Bool.or_eq_false_iff] at h3
  refine J20 (J8X (J20 (J20 rfl hf.1) hf.2.1) ?_) ?_
  · simp only [List.contains_cons, List.contains_nil, Bool.or_false, Bool.or_eq_false_iff]; exact ⟨h3.1, h3.2.1⟩
  · simp only [List.contains_cons, List.contains_nil, Bool.or_false]; exact h3.2.2
/-- A call that answers plainly and leaves all as it was. -/
theorem J4r (hb : L3 f args h = none) (hv : J3m v = true) (hw : ∃ h1, J0L Tryd.prog (J0T n) n f args h = some (v, h1) ∧ ∀ i, i < h.next → h1.get i = h.get i) (hf : wrK.contains f = false := by rfl) : J0T (n + 1) f args h = some (v, h) := by
  obtain ⟨h1, he, hk⟩ := hw
  unfold J0T orS J73
  rw [hb, he]
  simp only
  rw [if_pos ⟨hf, hv, hk⟩]
theorem J6r (hb : L3 f args h = none) (hv : J3m v = true) (hw : J0L Tryd.prog (J0T n) n f args h = some (v, h)) (hf : wrK.contains f = false := by rfl) : J0T (n + 1) f args h = some (v, h) := J4r hb hv ⟨h, hw, fun _ _ => rfl⟩ hf
/-- One that answers with memory. -/
theorem Jc0 {R : SHeap → Prop} (hb : L3 f args h = none) (hv : J3m v = false) (hw : ∃ h1, J0L Tryd.prog (J0T n) n f args h = some (v, h1) ∧ R h1) : ∃ h1, J0T (n + 1) f args h = some (v, h1) ∧ R h1 := by
  obtain ⟨h1, he, hk⟩ := hw
  refine ⟨h1, ?_, hk⟩
  unfold J0T orS J73
  rw [hb, he]
  simp only
  rw [if_neg (fun hc => by rw [hv] at hc; cases hc.2.1)]
/-- One that may answer plainly. -/
theorem k_ex {R : Value → SHeap → Prop} (hb : L3 f args h = none) (hw : ∃ v h1, J0L Tryd.prog (J0T n) n f args h = some (v, h1) ∧ R v h1) (hf : ∀ v h1, J3m v = true → (∀ i, i < h.next → h1.get i = h.get i) → R v h1 → R v h) : ∃ v h1, J0T (n + 1) f args h = some (v, h1) ∧ R v h1 := by
  obtain ⟨v, h1, he, hk⟩ := hw
  by_cases hc : wrK.contains f = false ∧ J3m v = true ∧ ∀ i, i < h.next → h1.get i = h.get i
  · refine ⟨v, h, ?_, hf v h1 hc.2.1 hc.2.2 hk⟩
    unfold J0T orS J73
    rw [hb, he]
    simp only
    rw [if_pos hc]
  · refine ⟨v, h1, ?_, hk⟩
    unfold J0T orS J73
    rw [hb, he]
    simp only
    rw [if_neg hc]
/-- One that writes what there was. -/
theorem k_wr {R : SHeap → Prop} (hb : L3 f args h = none) (hw : ∃ h1, J0L Tryd.prog (J0T n) n f args h = some (v, h1) ∧ R h1) (hf : wrK.contains f = true := by rfl) : ∃ h1, J0T (n + 1) f args h = some (v, h1) ∧ R h1 := by
  obtain ⟨h1, he, hk⟩ := hw
  refine ⟨h1, ?_, hk⟩
  unfold J0T orS J73
  rw [hb, he]
  simp only
  rw [if_neg (fun hc => by rw [hf] at hc; cases hc.1)]
end

/-! ### The program's check of a tree -/
theorem Jje {l : List RowN} {v : Value} (hlen : l.length < 1099511627776) : ∀ m n (at_ : Nat) (what : Int) h, at_ ≤ l.length → l.length < at_ + m → what ≠ 8 → J0l h v l → h.get 0 = J14 → 0 < h.next → h.floor ≤ h.next → l.length + 4 + m < n →
    J0T n 73 [v, iv at_, iv what] h = some (.tuple #[iv ((rowN J09 l m at_ what).1 : Int), .bool (rowN J09 l m at_ what).2], h) := by
  intro m
  induction m with
  | zero => intro n at_ what h hat hm; omega
  | succ m ih =>
    intro n at_ what h hat hm hw hv hg hn0 hfl hn
    obtain ⟨n, rfl⟩ : ∃ k, n = k + 1 := ⟨n - 1, by omega⟩
    refine J4r (J13 ⟨rfl, rfl, rfl⟩) (J93 rfl rfl) ?_
    exact Jfm (J1z n).2 ⟨fun k j h hk hj => J2Z (Jfj k j h hk hj), fun p w h hp hpl hw hv hg hn0 hfl => ih n p w h hpl (by omega) hw hv hg hn0 hfl (by omega)⟩
      (by omega) hlen hat hw (fun w k h => J2Z (J9I w k h)) (fun k h hk => J2Z (J7b k h hk)) (fun s h' hg => k_up (J94 hg s)) hv hg hn0 hfl
theorem Jj1 {l : List RowN} {v : Value} (hlen : l.length < 1099511627776) {n m : Nat} (hm : l.length < 1 + m) (hn : l.length + 7 + m < n) {h : SHeap} (hv : J0l h v l) (hg : h.get 0 = J14) (hn0 : 0 < h.next) (hfl : h.floor ≤ h.next) :
    J0T n 73 [v, iv 0, iv 8] h = some (.tuple #[iv ((topN J09 l m).1 : Int), .bool (topN J09 l m).2], h) := by
  obtain ⟨n, rfl⟩ : ∃ k, n = k + 2 := ⟨n - 2, by omega⟩
  refine J4r (J13 ⟨rfl, rfl, rfl⟩) (J93 rfl rfl) ?_
  refine Jcw (J1z (n + 1)).2 ?_ (by omega) hlen (fun w k h => J2Z (J9I w k h)) (fun k h hk => J2Z (J7b k h hk)) (fun s h' hg => k_up (J94 hg s)) hv hg hn0 hfl
  intro x h' hx hf hk1 hv' hg' hn0' hfl'
  have hk0 : 0 ≤ x.kids := by
    unfold fitN at hf
    simp only [Bool.and_eq_true, decide_eq_true_eq] at hf
    have := J4a x.kind
    omega
  refine J6r (J13 ⟨rfl, rfl, rfl⟩) (J93 rfl rfl) ?_
  refine JeN hx hk0 (by omega) hlen hv' (fun w k h => J2Z (J9I w k h)) fun p w hp hpl hw => ?_
  exact Jje hlen m n p w h' hpl (by omega) hw hv' hg' hn0' hfl' (by omega)
theorem Jjo {l : List RowN} {v : Value} (hlen : l.length < 1099511627776) (hval : ∀ (i : Nat) x, l[i]? = some x → 1 ≤ x.kind ∧ x.kind ≤ 54) {h : SHeap} (hv : J0l h v l) : ∀ m n (at_ : Nat), m < 1099511627776 → at_ < l.length → l.length < at_ + m → l.length + 4 + m < n →
    J0T n 94 [v, iv at_] h = some (.tuple #[iv (levN l m at_).1, iv ((levN l m at_).2 : Int)], h) := by
  intro m
  induction m with
  | zero => intro n at_ _ hat hm; omega
  | succ m ih =>
    intro n at_ hmm hat hm hn
    obtain ⟨n, rfl⟩ : ∃ k, n = k + 1 := ⟨n - 1, by omega⟩
    refine J6r (J13 ⟨rfl, rfl, rfl⟩) (J93 rfl rfl) ?_
    refine J9x (J1z n).2 (by omega) hlen (by omega) hat (by omega) hv hval (fun P Q k h hP hQ => J2Z (Jel P Q k h hP hQ)) (fun k h hk => J2Z (Jeh k h hk)) fun p hp hpl => ?_
    exact ih n p (by omega) hpl (by omega) (by omega)
theorem JgM {n : Nat} {l : List RowN} {v : Value} (hn : 2 * l.length + 12 < n) (hlen : l.length < 1099511627) {h : SHeap} (hv : J0l h v l) (hg : h.get 0 = J14) (hn0 : 0 < h.next) (hfl : h.floor ≤ h.next) :
    J0T n 30 [v] h = some (J2k (J0v l).1 (J0v l).2, h) := by
  obtain ⟨n, rfl⟩ : ∃ k, n = k + 2 := ⟨n - 2, by omega⟩
  refine J4r (J13 ⟨rfl, rfl, rfl⟩) rfl ?_
  refine Jb8 hv hg hn0 hfl (fun h' hv' hg' hn' hfl' => Jj1 (by omega) (by omega) (by omega) hv' hg' hn' hfl') fun hs h' hv' => ?_
  refine J6r (J13 ⟨rfl, rfl, rfl⟩) rfl ?_
  exact J9R (m := l.length + 1) hv' (J8Q hs) (Jjo (by omega) (J9T hs) hv' (l.length + 1) n 0 (by omega) (J8Q hs) (by omega) (by omega))
/-! ### Ends -/
theorem k_ends' {l L : List RowN} {v : Value} {h : SHeap} {n : Nat} (ht : J2c l) (hsk : SameKids L l) (hv : J0l h v L) (hlen : l.length < 1099511627776) (hn : l.length + 4 < n) (hfl : h.floor ≤ h.next) :
    ∃ h', J0T n 49 [v] h = some (.slice (some ⟨h.next, 0, none⟩) l.length l.length, h') ∧ (h'.get h.next = .row (ints (J0o l)) 3 false false ∧ h'.next = h.next + 1 ∧ h'.floor = h.floor ∧ ∀ i, i < h.next → h'.get i = h.get i) := by
  obtain ⟨n, rfl⟩ : ∃ k, n = k + 1 := ⟨n - 1, by omega⟩
  exact Jc0 (J13 ⟨rfl, rfl, rfl⟩) rfl (ends_walkP' ht hsk hv hlen (by omega) hfl)
theorem JhY {l : List RowN} {v : Value} {h : SHeap} {n : Nat} (ht : J2c l) (hv : J0l h v l) (hlen : l.length < 1099511627776) (hn : l.length + 4 < n) (hfl : h.floor ≤ h.next) :
    ∃ h', J0T n 49 [v] h = some (.slice (some ⟨h.next, 0, none⟩) l.length l.length, h') ∧ (h'.get h.next = .row (ints (J0o l)) 3 false false ∧ h'.next = h.next + 1 ∧ h'.floor = h.floor ∧ ∀ i, i < h.next → h'.get i = h.get i) := by
  obtain ⟨n, rfl⟩ : ∃ k, n = k + 1 := ⟨n - 1, by omega⟩
  exact Jc0 (J13 ⟨rfl, rfl, rfl⟩) rfl (JbW ht hv hlen (by omega) hfl)
theorem k_endsR' {l L : List RowN} {v : Value} {h : SHeap} {n : Nat} (ht : J2c l) (hsk : SameKids L l) (hv : J0l h v L) (hlen : l.length < 1099511627776) (hn : l.length + 4 < n) (hfl : h.floor ≤ h.next) :
    ∃ h', J0T n 56 [v] h = some (.slice (some ⟨h.next, 0, none⟩) l.length l.length, h') ∧ (h'.get h.next = .row (ints (J0o l)) 3 false false ∧ h'.next = h.next + 1 ∧ h'.floor = h.floor ∧ ∀ i, i < h.next → h'.get i = h.get i) := by
  obtain ⟨n, rfl⟩ : ∃ k, n = k + 1 := ⟨n - 1, by omega⟩
  exact Jc0 (J13 ⟨rfl, rfl, rfl⟩) rfl (ends_walkR' ht hsk hv hlen (by omega) hfl)
theorem JcD {l : List RowN} {v : Value} {h : SHeap} {n : Nat} (ht : J2c l) (hv : J0l h v l) (hlen : l.length < 1099511627776) (hn : l.length + 4 < n) (hfl : h.floor ≤ h.next) :
    ∃ h', J0T n 56 [v] h = some (.slice (some ⟨h.next, 0, none⟩) l.length l.length, h') ∧ (h'.get h.next = .row (ints (J0o l)) 3 false false ∧ h'.next = h.next + 1 ∧ h'.floor = h.floor ∧ ∀ i, i < h.next → h'.get i = h.get i) := by
  obtain ⟨n, rfl⟩ : ∃ k, n = k + 1 := ⟨n - 1, by omega⟩
  exact Jc0 (J13 ⟨rfl, rfl, rfl⟩) rfl (JbF ht hv hlen (by omega) hfl)
end Go.Proofs.YtipekdhneagdbaaDoor
/- The document's maker, in the words of the machine: its lists as slots of one kind. -/
namespace Go.Proofs.YtipekdhneagdbaaDoor
open Go Go.Sx
set_option maxRecDepth 100000
set_option linter.unusedSimpArgs false
set_option linter.unusedVariables false

theorem sz93 : szOf Tryd.prog 93 = some 15 := by kernel_rfl
theorem sz91 : szOf Tryd.prog 91 = some 5 := by kernel_rfl
theorem sz90 : szOf Tryd.prog 90 = some 1 := by kernel_rfl
theorem sz89 : szOf Tryd.prog 89 = some 1 := by kernel_rfl
theorem Jh7 : szOf Tryd.prog 121 = some 4 := by kernel_rfl
theorem JjN : J2X Tryd.prog 90 = some false := by kernel_rfl
theorem JjH : byOf Tryd.prog 121 = some 40 := by kernel_rfl
theorem J9G : J1w Tryd.prog 121 = some (.agg #[.string ByteArray.empty, iv 0, iv 0, iv 0]) := by kernel_rfl
theorem JcE : J2Q Tryd.prog (match Tryd.prog.underlying 121 with | some (.struct fs) => fs.toList | _ => []) = some [(0, 1), (1, 1), (2, 1), (3, 1)] := by kernel_rfl
abbrev JfR (nm : ByteArray) (a b c : Int) : Value := .agg #[.string nm, iv a, iv b, iv c]
theorem Jem {nm : ByteArray} {a b c : Int} : J1P Tryd.prog 121 [(0, .string nm), (1, iv a), (2, iv b), (3, iv c)] = some (JfR nm a b c) := by
  have h := JcE
  rw [Tryd.underlying121] at h
  simp only at h
  have hf : flat (.agg #[.string ByteArray.empty, iv 0, iv 0, iv 0]) = true := rfl
  simp only [J1P, J9G, hf, if_true, Tryd.underlying121, h]
  rfl
section
variable {h : SHeap} {id off : Nat}
theorem bs90 {nm : ByteArray} {a b c : Int} : J0Q Tryd.prog h 90 1 [(0, JfR nm a b c)] = some (.slice (some ⟨h.next, 0, none⟩) 1 1, h.push (.row [.string nm, iv a, iv b, iv c] 121 false false)) := by
  simp [J0Q, Tryd.underlying90, Jh7, J9G, flat, J1i, J0G, J5k, J3e, Go.Sx.lay]
theorem J4B : J2x Tryd.prog h 90 (.pointer (some ⟨id, off, none⟩)) = ld1 off (h.get id) := J41 JjN
theorem J0z : J08 Tryd.prog 93 (.pointer (some ⟨id, off, none⟩)) 0 = some (.pointer (some ⟨id, off, none⟩)) := by simp [J08, Tryd.underlying93, sz28, sz30, sz90, sz91, J0q]
theorem J19 : J08 Tryd.prog 93 (.pointer (some ⟨id, off, none⟩)) 1 = some (.pointer (some ⟨id, off + 8, none⟩)) := by simp [J08, Tryd.underlying93, sz28, sz30, sz90, sz91, J0q]
theorem J3K : J08 Tryd.prog 93 (.pointer (some ⟨id, off, none⟩)) 2 = some (.pointer (some ⟨id, off + 9, none⟩)) := by simp [J08, Tryd.underlying93, sz28, sz30, sz90, sz91, J0q]
theorem Jae : J08 Tryd.prog 93 (.pointer (some ⟨id, off, none⟩)) 3 = some (.pointer (some ⟨id, off + 10, none⟩)) := by simp [J08, Tryd.underlying93, sz28, sz30, sz90, sz91, J0q]
theorem JaK : J08 Tryd.prog 121 (.pointer (some ⟨id, off, none⟩)) 0 = some (.pointer (some ⟨id, off, none⟩)) := by simp [J08, Tryd.underlying121, sz3, sz9, J0q]
theorem JaE : J08 Tryd.prog 121 (.pointer (some ⟨id, off, none⟩)) 1 = some (.pointer (some ⟨id, off + 1, none⟩)) := by simp [J08, Tryd.underlying121, sz3, sz9, J0q]
theorem JeE : J08 Tryd.prog 121 (.pointer (some ⟨id, off, none⟩)) 2 = some (.pointer (some ⟨id, off + 2, none⟩)) := by simp [J08, Tryd.underlying121, sz3, sz9, J0q]
theorem J7Z : J08 Tryd.prog 121 (.pointer (some ⟨id, off, none⟩)) 3 = some (.pointer (some ⟨id, off + 3, none⟩)) := by simp [J08, Tryd.underlying121, sz3, sz9, J0q]
theorem JjP {i : Nat} (hi : i < 5) : J0R Tryd.prog 91 (.pointer (some ⟨id, off, none⟩)) (iv (i : Int)) = some (.pointer (some ⟨id, off + i, none⟩)) := by
  simp only [J0R, Tryd.underlying91, sz3, J0q]
  rw [if_pos (by omega)]
  simp
theorem Jd8 {n c i : Nat} (hi : i < n) : J0R Tryd.prog 90 (.slice (some ⟨id, 0, none⟩) n c) (iv (i : Int)) = some (.pointer (some ⟨id, i * 4, none⟩)) := by
  simp only [J0R, Tryd.underlying90, Jh7, J0q]
  rw [if_pos (by omega)]
  simp
theorem JeT {a : Option Addr} {n c : Nat} : lenS Tryd.prog h 90 (.slice a n c) = some (iv (n : Int)) := by simp [lenS, Tryd.underlying90]
end

/-! ### Slots -/
def thC (t : ThN) : List Value := [.string t.name, iv t.kind, iv t.num, iv t.known]
def J4t (l : List ThN) : List Value := l.flatMap thC
theorem J7t : ∀ l, (J4t l).length = l.length * 4
  | [] => rfl
  | t :: l => by
    have := J7t l
    simp only [J4t, thC, List.flatMap_cons, List.length_append, List.length_cons, List.length_nil] at *
    omega
theorem J7a : ∀ l, (J4t l).all one = true
  | [] => rfl
  | t :: l => by
    have := J7a l
    simp only [J4t, List.flatMap_cons, List.all_append] at *
    rw [this]
    rfl
theorem J4I : ∀ {l : List ThN} {k : Nat} {t : ThN} (ex : List Value), l[k]? = some t → ∀ j, j < 4 → (J4t l ++ ex)[k * 4 + j]? = (thC t)[j]?
  | [], k, t, ex, h, j, hj => by simp at h
  | a :: l, 0, t, ex, h, j, hj => by
    simp only [List.getElem?_cons_zero, Option.some.injEq] at h
    subst h
    rw [J4t, List.flatMap_cons, List.append_assoc, Nat.zero_mul, Nat.zero_add, List.getElem?_append_left (by simp only [thC, List.length_cons, List.length_nil]; omega)]
  | a :: l, k + 1, t, ex, h, j, hj => by
    have ih := J4I (l := l) (k := k) (t := t) ex (by simpa using h) j hj
    rw [J4t, List.flatMap_cons, List.append_assoc, List.getElem?_append_right (by simp only [thC, List.length_cons, List.length_nil]; omega), ← ih]
    congr 1
    simp only [thC, List.length_cons, List.length_nil]
    omega
def slN (s : StN) : Nat → Nat
  | 2 => s.queues.length
  | 3 => s.vars.length
  | 4 => s.tags.length
  | 5 => s.rules.length
  | 6 => s.on.length
  | 8 => s.things.length
  | _ => 0
def slC (s : StN) : Nat → List Value
  | 2 => J3S s.queues
  | 3 => strs s.vars
  | 4 => strs s.tags
  | 5 => ints s.rules
  | 6 => ints s.on
  | 8 => J4t s.things
  | _ => []
def slT : Nat → TypeId
  | 2 => 57
  | 3 => 9
  | 4 => 9
  | 5 => 3
  | 6 => 3
  | 8 => 121
  | _ => 3
def upd (V : Nat → Value) (j : Nat) (v : Value) : Nat → Value := fun i => if i = j then v else V i
def J1p (nm : ByteArray) (r n : Nat) (V : Nat → Value) (miss : Int) (e ne : Nat) (C : List Int) : List Value :=
  [.string nm, .slice (some ⟨r, 0, none⟩) n unk, V 2, V 3, V 4, V 5, V 6, iv miss, .slice (some ⟨e, 0, none⟩) ne ne, V 8] ++ ints C

structure MkR (h : SHeap) (lo m e r n : Nat) (nm : ByteArray) (E : List Int) (tag : Nat → Nat) (V : Nat → Value) (C : List Int) (s : StN) : Prop where
  cell : h.get m = .row (J1p nm r n V s.miss e E.length C) 93 false false
  rows : h.get r = .row (s.rows.flatMap J0e) 46 true false
  len : s.rows.length = n
  sl : ∀ j, 2 ≤ j → j ≤ 8 → SlAt h lo tag j (V j) (slN s j) (slC s j) (slT j)
  ends : h.get e = .row (ints E) 3 false false
  tm : tag m = 0
  tr : tag r = 1
  te : tag e = 10
  lm : lo ≤ m ∧ m < h.next
  lr : lo ≤ r ∧ r < h.next
  le : lo ≤ e ∧ e < h.next
  fl : h.floor ≤ lo
section
variable {h h' : SHeap} {lo m e r n : Nat} {nm : ByteArray} {E : List Int} {tag tag' : Nat → Nat} {V : Nat → Value} {C : List Int} {s s' : StN}
theorem MkR.mono (hp : MkR h lo m e r n nm E tag V C s) (hn : h.next ≤ h'.next) (hf : h'.floor = h.floor) (hg : ∀ i, lo ≤ i → i < h.next → h'.get i = h.get i) : MkR h' lo m e r n nm E tag V C s where
  cell := by rw [hg m hp.lm.1 hp.lm.2]; exact hp.cell
  rows := by rw [hg r hp.lr.1 hp.lr.2]; exact hp.rows
  len := hp.len
  sl := fun j h1 h2 => (hp.sl j h1 h2).mono hn (fun _ _ => rfl) fun i h3 h4 _ => hg i h3 h4
  ends := by rw [hg e hp.le.1 hp.le.2]; exact hp.ends
  tm := hp.tm
  tr := hp.tr
  te := hp.te
  lm := ⟨hp.lm.1, by have := hp.lm.2; omega⟩
  lr := ⟨hp.lr.1, by have := hp.lr.2; omega⟩
  le := ⟨hp.le.1, by have := hp.le.2; omega⟩
  fl := by rw [hf]; exact hp.fl
theorem MkR.retag (hp : MkR h lo m e r n nm E tag V C s) (ht : ∀ i, i < h.next → tag' i = tag i) : MkR h lo m e r n nm E tag' V C s :=
  ⟨hp.cell, hp.rows, hp.len, fun j h1 h2 => (hp.sl j h1 h2).mono (Nat.le_refl _) ht fun _ _ _ _ => rfl, hp.ends, (ht m hp.lm.2).trans hp.tm, (ht r hp.lr.2).trans hp.tr, (ht e hp.le.2).trans hp.te, hp.lm, hp.lr, hp.le, hp.fl⟩
theorem MkR.push (hp : MkR h lo m e r n nm E tag V C s) (o : SObj) : MkR (h.push o) lo m e r n nm E tag V C s := hp.mono (by show h.next ≤ h.next + 1; omega) rfl fun i _ hi => J06 hi
theorem MkR.putNew (hp : MkR h lo m e r n nm E tag V C s) {o o' : SObj} : MkR ((h.push o').put h.next o) lo m e r n nm E tag V C s :=
  hp.mono (by show h.next ≤ h.next + 1; omega) rfl fun i _ hi => by rw [J05 (by show h.next < h.next + 1; omega) (by omega), J06 hi]
/-- The maker's own cells are written. -/
theorem MkR.cellW (hp : MkR h lo m e r n nm E tag V C s) {C' : List Int} {miss' : Int} : MkR (h.put m (.row (J1p nm r n V miss' e E.length C') 93 false false)) lo m e r n nm E tag V C' { s with miss := miss' } where
  cell := J0b rfl hp.lm.2
  rows := by rw [J05 hp.lm.2 (J1Y (tag := tag) (by rw [hp.tm, hp.tr]; decide))]; exact hp.rows
  len := hp.len
  sl := fun j h1 h2 => (hp.sl j h1 h2).mono (Nat.le_refl _) (fun _ _ => rfl) fun i _ _ h3 => J05 hp.lm.2 (J1Y (tag := tag) (by rw [hp.tm]; omega))
  ends := by rw [J05 hp.lm.2 (J1Y (tag := tag) (by rw [hp.tm, hp.te]; decide))]; exact hp.ends
  tm := hp.tm
  tr := hp.tr
  te := hp.te
  lm := hp.lm
  lr := hp.lr
  le := hp.le
  fl := hp.fl
/-- The rows are written. -/
theorem MkR.rowsW (hp : MkR h lo m e r n nm E tag V C s) {l : List RowN} (hl : l.length = s.rows.length) : MkR (h.put r (.row (l.flatMap J0e) 46 true false)) lo m e r n nm E tag V C { s with rows := l } where
  cell := by rw [J05 hp.lr.2 (J1Y (tag := tag) (by rw [hp.tm, hp.tr]; decide))]; exact hp.cell
  rows := J0b rfl hp.lr.2
  len := hl.trans hp.len
  sl := fun j h1 h2 => (hp.sl j h1 h2).mono (Nat.le_refl _) (fun _ _ => rfl) fun i _ _ h3 => J05 hp.lr.2 (J1Y (tag := tag) (by rw [hp.tr]; omega))
  ends := by rw [J05 hp.lr.2 (J1Y (tag := tag) (by rw [hp.tr, hp.te]; decide))]; exact hp.ends
  tm := hp.tm
  tr := hp.tr
  te := hp.te
  lm := hp.lm
  lr := hp.lr
  le := hp.le
  fl := hp.fl
theorem MkR.row (hp : MkR h lo m e r n nm E tag V C s) {at_ : Nat} {x : RowN} (hx : s.rows[at_]? = some x) : at_ < n ∧ ld1 (at_ * 5) (h.get r) = some (iv x.kind) ∧ ld1 (at_ * 5 + 1) (h.get r) = some (.string x.name) ∧ ld1 (at_ * 5 + 3) (h.get r) = some (iv x.n) ∧
    ldN 5 (at_ * 5) (h.get r) = some (.agg #[iv x.kind, .string x.name, iv x.ends, iv x.n, iv x.kids]) := by
  have hl : at_ < n := by rw [← hp.len]; exact (List.getElem?_eq_some_iff.1 hx).1
  have hat := J6F (c := unk) hp.rows hp.lr.2
  rw [hp.len] at hat
  obtain ⟨id, q, e0, hid, l0, l1, l2, l3, l4, lr⟩ := hat.row hx
  rw [J4z hl] at e0
  simp only [Option.some.injEq, Value.pointer.injEq, Addr.mk.injEq, and_true] at e0
  obtain ⟨rfl, rfl⟩ := e0
  exact ⟨hl, l0, l1, l3, lr⟩
/-- A slot grows by one. -/
theorem MkR.grow (hp : MkR h lo m e r n nm E tag V C s) {j : Nat} (h2 : 2 ≤ j) (h8 : j ≤ 8) {t : TypeId} {w bb : Nat} {z : Value} (hu : Tryd.prog.underlying t = some (.slice (slT j))) (hsz : szOf Tryd.prog (slT j) = some w) (hby : byOf Tryd.prog (slT j) = some bb) (hzo : J1w Tryd.prog (slT j) = some z) (hz : z.cells.size = w) (hw : 0 < w) (hbb : bb ≤ 1024)
    {xs : List Value} (hcl : (slC s j).length = slN s j * w) (hco : (slC s j).all one = true) (hxl : xs.length = w) (hxo : xs.all one = true) (hnb : slN s j < 10000000) :
    ∃ v' h1, J1o Tryd.prog (h.push (.row xs (slT j) false false)) t (V j) (.slice (some ⟨h.next, 0, none⟩) 1 1) = some (v', h1) ∧ one v' = true ∧ v'.cells = #[v'] ∧ h1.get m = h.get m ∧ h1.floor = h.floor ∧ h1.next = h.next + 2 ∧ (∀ i, i < h.next → i < lo ∨ tag i = 11 → h1.get i = h.get i) ∧
      ∀ s', s'.rows = s.rows → s'.miss = s.miss → slN s' j = slN s j + 1 → slC s' j = slC s j ++ xs → (∀ i, i ≠ j → slN s' i = slN s i ∧ slC s' i = slC s i) →
        MkR (h1.put m (.row (J1p nm r n (upd V j v') s.miss e E.length C) 93 false false)) lo m e r n nm E (fun i => if i = h.next + 1 then j else tag i) (upd V j v') C s' := by
  have hpp : SlAt (h.push (.row xs (slT j) false false)) lo (fun i => if i = h.next then 11 else tag i) j (V j) (slN s j) (slC s j) (slT j) := (hp.sl j h2 h8).mono (by show h.next ≤ h.next + 1; omega) (fun i hi => if_neg (by omega)) fun i _ hi _ => J06 hi
  have hlm := hp.lm
  obtain ⟨v', h1, a1, a2, a3, a4, a5, a6, a7⟩ := J3B (et := slT j) (w := w) (c := 1) (sc := 1) (xs := xs) hu hsz hby hzo hz hw hbb hpp hcl hco (by rw [Nat.one_mul]; exact hxl) hxo (by decide) (by decide) hnb (src := h.next) J0h (by show h.next < h.next + 1; omega) hp.fl (by simp; omega)
  have hnx : h1.next = h.next + 2 := a4
  have hold : ∀ i, i < h.next → ¬ (lo ≤ i ∧ tag i = j) → h1.get i = h.get i := fun i hi hne => by
    rw [a7 i (by show i < h.next + 1; omega) (by rw [if_neg (by omega)]; exact hne), J06 hi]
  have hm1 : m < h1.next := by omega
  have hgm : h1.get m = h.get m := hold m hlm.2 (by rw [hp.tm]; omega)
  have hSl : SlAt h1 lo (fun i => if i = h.next + 1 then j else tag i) j v' (slN s j + 1) (slC s j ++ xs) (slT j) := by
    rcases a2 with a2 | a2
    · refine a2.mono' fun i hi => ?_
      show (if i = h.next + 1 then j else tag i) = (if i = h.next + 1 then j else if i = h.next then 11 else tag i) ∨ (if i = h.next + 1 then j else if i = h.next then 11 else tag i) ≠ j
      by_cases e1 : i = h.next + 1
      · left; rw [if_pos e1, if_pos e1]
      · rw [if_neg e1, if_neg e1]
        by_cases e2 : i = h.next
        · right; rw [if_pos e2]; omega
        · left; rw [if_neg e2]
    · exact absurd (show lo ≤ h.next + 1 by omega) a2
  refine ⟨v', h1, a1, a5, a6, hgm, a3, hnx, fun i hi hlo => hold i hi (by omega), fun s' q1 q2 q3 q4 q5 => ?_⟩
  have hpn : ∀ i, i ≠ m → (h1.put m (.row (J1p nm r n (upd V j v') s.miss e E.length C) 93 false false)).get i = h1.get i := fun i hi => J05 hm1 (Ne.symm hi)
  have tne : ∀ i, tag i ≠ 0 → i ≠ m := fun i hi hh => hi (by rw [hh]; exact hp.tm)
  exact
    { cell := by rw [q2]; exact J0b rfl hm1
      rows := by rw [hpn r (tne r (by rw [hp.tr]; decide)), hold r hp.lr.2 (by rw [hp.tr]; omega), q1]; exact hp.rows
      len := by rw [q1]; exact hp.len
      sl := fun i i2 i8 => by
        by_cases hij : i = j
        · subst hij
          rw [q3, q4, show upd V i v' i = v' from if_pos rfl]
          refine hSl.mono (Nat.le_refl _) (fun _ _ => rfl) fun k k1 k2 k3 => hpn k ?_
          intro hk
          rw [hk] at k3
          rw [if_neg (by omega), hp.tm] at k3
          omega
        · obtain ⟨q6, q7⟩ := q5 i hij
          rw [q6, q7, show upd V j v' i = V i from if_neg hij]
          refine (hp.sl i i2 i8).mono (by show h.next ≤ h1.next; omega) (fun k hk => if_neg (by omega)) fun k k1 k2 k3 => ?_
          rw [hpn k (tne k (by omega)), hold k k2 (by omega)]
      ends := by rw [hpn e (tne e (by rw [hp.te]; decide)), hold e hp.le.2 (by rw [hp.te]; omega)]; exact hp.ends
      tm := (if_neg (by omega)).trans hp.tm
      tr := (if_neg (by have := hp.lr; omega)).trans hp.tr
      te := (if_neg (by have := hp.le; omega)).trans hp.te
      lm := ⟨hlm.1, hm1⟩
      lr := ⟨hp.lr.1, by have := hp.lr.2; show r < h1.next; omega⟩
      le := ⟨hp.le.1, by have := hp.le.2; show e < h1.next; omega⟩
      fl := by show h1.floor ≤ lo; have : h1.floor = h.floor := a3; have := hp.fl; omega }
/-- A slot's own cells are written. -/
theorem MkR.slotW (hp : MkR h lo m e r n nm E tag V C s) {j : Nat} (h2 : 2 ≤ j) (h8 : j ≤ 8) {id : Nat} {ex : List Value} (hV : V j = .slice (some ⟨id, 0, none⟩) (slN s j) unk) (ht : tag id = j) (hl : lo ≤ id ∧ id < h.next) (q1 : s'.rows = s.rows) (q2 : s'.miss = s.miss) (q3 : slN s' j = slN s j)
    (q5 : ∀ i, i ≠ j → slN s' i = slN s i ∧ slC s' i = slC s i) : MkR (h.put id (.row (slC s' j ++ ex) (slT j) true false)) lo m e r n nm E tag V C s' where
  cell := by rw [J05 hl.2 (fun hh => by subst hh; have := hp.tm; omega), q2]; exact hp.cell
  rows := by rw [J05 hl.2 (fun hh => by subst hh; have := hp.tr; omega), q1]; exact hp.rows
  len := by rw [q1]; exact hp.len
  sl := fun i i2 i8 => by
    by_cases hij : i = j
    · subst hij
      rw [q3]
      exact .inr ⟨id, ex, hV, J0b rfl hl.2, hl.1, hl.2, ht⟩
    · obtain ⟨q6, q7⟩ := q5 i hij
      rw [q6, q7]
      exact (hp.sl i i2 i8).mono (Nat.le_refl _) (fun _ _ => rfl) fun k _ _ k3 => J05 hl.2 (fun hh => by subst hh; omega)
  ends := by rw [J05 hl.2 (fun hh => by subst hh; have := hp.te; omega)]; exact hp.ends
  tm := hp.tm
  tr := hp.tr
  te := hp.te
  lm := hp.lm
  lr := hp.lr
  le := hp.le
  fl := hp.fl
theorem MkR.c0 (hp : MkR h lo m e r n nm E tag V C s) : ld1 0 (h.get m) = some (.string nm) := by rw [hp.cell]; rfl
theorem MkR.c1 (hp : MkR h lo m e r n nm E tag V C s) : ld1 1 (h.get m) = some (.slice (some ⟨r, 0, none⟩) n unk) := by rw [hp.cell]; rfl
theorem MkR.c2 (hp : MkR h lo m e r n nm E tag V C s) : ld1 2 (h.get m) = some (V 2) := by rw [hp.cell]; rfl
theorem MkR.c3 (hp : MkR h lo m e r n nm E tag V C s) : ld1 3 (h.get m) = some (V 3) := by rw [hp.cell]; rfl
theorem MkR.c4 (hp : MkR h lo m e r n nm E tag V C s) : ld1 4 (h.get m) = some (V 4) := by rw [hp.cell]; rfl
theorem MkR.c5 (hp : MkR h lo m e r n nm E tag V C s) : ld1 5 (h.get m) = some (V 5) := by rw [hp.cell]; rfl
theorem MkR.c6 (hp : MkR h lo m e r n nm E tag V C s) : ld1 6 (h.get m) = some (V 6) := by rw [hp.cell]; rfl
theorem MkR.c7 (hp : MkR h lo m e r n nm E tag V C s) : ld1 7 (h.get m) = some (iv s.miss) := by rw [hp.cell]; rfl
theorem MkR.c8 (hp : MkR h lo m e r n nm E tag V C s) : ld1 8 (h.get m) = some (.slice (some ⟨e, 0, none⟩) E.length E.length) := by rw [hp.cell]; rfl
theorem MkR.c9 (hp : MkR h lo m e r n nm E tag V C s) : ld1 9 (h.get m) = some (V 8) := by rw [hp.cell]; rfl
theorem MkR.cC (hp : MkR h lo m e r n nm E tag V C s) {i : Nat} {x : Int} (hi : C[i]? = some x) : ld1 (10 + i) (h.get m) = some (iv x) := by
  rw [hp.cell]
  have : ∀ (a : List Value), a.length = 10 → (a ++ ints C)[10 + i]? = some (iv x) := fun a ha => by
    rw [List.getElem?_append_right (by omega), ha, show 10 + i - 10 = i by omega, J6g, hi]
    rfl
  exact this _ rfl
/-- One of the slots' cells stored. -/
theorem MkR.stV (hp : MkR h lo m e r n nm E tag V C s) {h1 : SHeap} (hg : h1.get m = h.get m) (hf : h1.floor = h.floor) {t : TypeId} (ht : szOf Tryd.prog t = some 1) {j p : Nat} (hj : (j = p ∧ 2 ≤ p ∧ p ≤ 6) ∨ (j = 8 ∧ p = 9)) {v : Value} (hv : v.cells = #[v]) (ho : one v = true) :
    J0K Tryd.prog h1 t (.pointer (some ⟨m, p, none⟩)) v = some (h1.put m (.row (J1p nm r n (upd V j v) s.miss e E.length C) 93 false false)) := by
  have hl : (J1p nm r n V s.miss e E.length C).length = 10 + C.length := by simp [J1p, ints]; omega
  have h0 := stc (off := p) ht hv ho (hg.trans hp.cell) (by rw [hl]; omega) (by have := hp.fl; have := hp.lm.1; omega)
  rw [h0]
  have key : (J1p nm r n V s.miss e E.length C).set p v = J1p nm r n (upd V j v) s.miss e E.length C := by
    rcases hj with ⟨rfl, h2, h6⟩ | ⟨rfl, rfl⟩
    · have : j = 2 ∨ j = 3 ∨ j = 4 ∨ j = 5 ∨ j = 6 := by omega
      rcases this with rfl | rfl | rfl | rfl | rfl <;> rfl
    · rfl
  rw [key]
theorem MkR.stC (hp : MkR h lo m e r n nm E tag V C s) {i : Nat} (hi : i < C.length) {x : Int} : J0K Tryd.prog h 3 (.pointer (some ⟨m, 10 + i, none⟩)) (iv x) = some (h.put m (.row (J1p nm r n V s.miss e E.length (C.set i x)) 93 false false)) := by
  have hl : (J1p nm r n V s.miss e E.length C).length = 10 + C.length := by simp [J1p, ints]; omega
  have h0 := stc (off := 10 + i) sz3 (v := iv x) rfl rfl hp.cell (by rw [hl]; omega) (by have := hp.fl; have := hp.lm.1; omega)
  rw [h0]
  have key : ∀ a : List Value, a.length = 10 → (a ++ ints C).set (10 + i) (iv x) = a ++ ints (C.set i x) := fun a ha => by
    rw [List.set_append_right _ _ (by omega), ha, show 10 + i - 10 = i by omega, J66]
  rw [J1p, key _ rfl]
  rfl
theorem MkR.stM (hp : MkR h lo m e r n nm E tag V C s) {x : Int} : J0K Tryd.prog h 3 (.pointer (some ⟨m, 7, none⟩)) (iv x) = some (h.put m (.row (J1p nm r n V x e E.length C) 93 false false)) :=
  stc (off := 7) sz3 (v := iv x) rfl rfl hp.cell (by simp [J1p, ints]) (by have := hp.fl; have := hp.lm.1; omega)
end
end Go.Proofs.YtipekdhneagdbaaDoor
/- The document's maker: what a row declares, names, begins: walked. -/
namespace Go.Proofs.YtipekdhneagdbaaDoor
open Go Go.Sx
set_option maxRecDepth 100000
set_option linter.unusedSimpArgs false
set_option linter.unusedVariables false

/-- Which thing bears the name. -/
def J3M : List ThN → ByteArray → Nat → Int
  | [], _, _ => -1
  | t :: l, x, i => if x == t.name then (i : Int) else J3M l x (i + 1)
theorem J54 (a b : ByteArray) : (a == b) = (b == a) := by
  cases h : (a == b) with
  | true => have := J3o h; subst this; exact (J34 a).symm
  | false =>
    cases h2 : (b == a) with
    | true => have := J3o h2; subst this; rw [J34] at h; cases h
    | false => rfl
theorem J58 : ∀ (l : List ThN) (x : ByteArray) (i : Nat), match J30 l x with
    | none => J3M l x i = -1
    | some t => ∃ k : Nat, J3M l x i = ((i + k : Nat) : Int) ∧ l[k]? = some t
  | [], x, i => rfl
  | t :: l, x, i => by
    have ih := J58 l x (i + 1)
    simp only [J30, List.find?_cons, J3M] at ih ⊢
    cases hb : (x == t.name) with
    | true => exact ⟨0, rfl, rfl⟩
    | false =>
      simp only [Bool.false_eq_true, if_false]
      revert ih
      cases l.find? (fun t => x == t.name) with
      | none => exact id
      | some u =>
        rintro ⟨k, h1, h2⟩
        exact ⟨k + 1, by rw [h1]; congr 1; omega, h2⟩
section
variable {call : J0r} {N : Nat} {h : SHeap} {lo m e r n : Nat} {nm : ByteArray} {E : List Int} {tag : Nat → Nat} {V : Nat → Value} {C : List Int} {s : StN}
set_option maxHeartbeats 4000000 in
theorem JbE {x : ByteArray} (hp : MkR h lo m e r n nm E tag V C s) (hN : s.things.length + 3 < N) (hb : s.things.length < 1000000) : J0L Tryd.prog call N 86 [.pointer (some ⟨m, 0, none⟩), .string x] h = some (iv (J3M s.things x 0), h) := by
  refine J1m Tryd.func86 rfl (by simp [Tryd.f86]) ?_
  have hr : Tryd.f86.results.toList = [.tmp 4] := rfl
  have c9 := hp.c9
  have hsl := hp.sl 8 (by decide) (by decide)
  have hlen : ∀ h', lenS Tryd.prog h' 90 (V 8) = some (iv (s.things.length : Int)) := fun h' => by
    rcases hsl with ⟨h1, h2, h3⟩ | ⟨id, ex, h1, _⟩
    · rw [h3]
      have : s.things.length = 0 := h1
      rw [this]
      exact JeT
    · rw [h1]; exact JeT
  simp only [evC, sop, J00, J01, evs, resS, resV, ↓reduceIte, Nat.reduceEqDiff, reduceCtorEq, ↓evP, rpC, Nat.reduceAdd, Nat.reduceLT, hr]
  refine WK.loop (fun i st => st.h = h ∧ st.T.get 0 = .pointer (some ⟨m, 0, none⟩) ∧ st.T.get 1 = .string x ∧ st.T.get 5 = iv i ∧ i ≤ s.things.length ∧ J3M (s.things.drop i) x i = J3M s.things x 0) s.things.length (by omega) ?_ ?_
  · simp only [evC, sop, J00, J01, evs, resS, resV, ↓reduceIte, Nat.reduceEqDiff, reduceCtorEq, ↓evP, rpC, Nat.reduceAdd, Nat.reduceLT]
    exact ⟨rfl, rfl⟩
  · rintro i ⟨T1, h1⟩ hi ⟨rfl, t0, t1, t5, hil, hfx⟩
    simp only at t0 t1 t5
    by_cases hlt : i < s.things.length
    · have c1 : decide ((i : Int) < (s.things.length : Int)) = true := by simp only [decide_eq_true_eq]; omega
      have w1 : IntKind.i64.wrap ((i : Int) + 1) = ((i + 1 : Nat) : Int) := J0s (by omega) (by omega)
      obtain ⟨t, ht⟩ : ∃ t, s.things[i]? = some t := ⟨_, List.getElem?_eq_getElem hlt⟩
      have hd : s.things.drop i = t :: s.things.drop (i + 1) := by
        obtain ⟨h1, h2⟩ := List.getElem?_eq_some_iff.1 ht
        rw [List.drop_eq_getElem_cons h1, h2]
      rw [hd, J3M] at hfx
      rcases hsl with ⟨h1, _⟩ | ⟨id, ex, hv8, hg, _, _, _⟩
      · have : s.things.length = 0 := h1
        omega
      · have hg' : h1.get id = .row (J4t s.things ++ ex) 121 true false := hg
        have hix := Jd8 (id := id) (c := unk) hlt
        have hv8' : V 8 = .slice (some ⟨id, 0, none⟩) s.things.length unk := hv8
        have l0 : ld1 (i * 4) (h1.get id) = some (.string t.name) := by rw [hg']; exact J4I (j := 0) ex ht (by decide)
        cases hb : (x == t.name) with
        | true =>
          have hb' : (t.name == x) = true := by rw [J54]; exact hb
          rw [hb, if_pos rfl] at hfx
          simp only [evC, sop, J00, J01, evs, resS, resV, ↓reduceIte, Nat.reduceEqDiff, reduceCtorEq, ↓evP, rpC, Nat.reduceAdd, Nat.reduceLT, hr, t0, t1, t5, J3K, J4B, c9, hv8', JeT, c1, hix, JaK, l0, hb', ← hfx]
        | false =>
          have hb' : (t.name == x) = false := by rw [J54]; exact hb
          rw [hb] at hfx
          simp only [evC, sop, J00, J01, evs, resS, resV, ↓reduceIte, Nat.reduceEqDiff, reduceCtorEq, ↓evP, rpC, Nat.reduceAdd, Nat.reduceLT, hr, t0, t1, t5, J3K, J4B, c9, hv8', JeT, c1, hix, JaK, l0, hb', w1]
          exact ⟨by omega, by omega, hfx⟩
    · have c1 : decide ((i : Int) < (s.things.length : Int)) = false := by simp only [decide_eq_false_iff_not]; omega
      rw [List.drop_of_length_le (by omega)] at hfx
      have hfx' : J3M s.things x 0 = -1 := hfx.symm
      simp only [evC, sop, J00, J01, evs, resS, resV, ↓reduceIte, Nat.reduceEqDiff, reduceCtorEq, ↓evP, rpC, Nat.reduceAdd, Nat.reduceLT, hr, t0, t1, t5, J3K, J4B, c9, hlen, c1, hfx']
/-- The counts. -/
def cntL (s : StN) : List Int := [0, s.queues.length, s.vars.length, s.tags.length, s.rules.length]
theorem Jev {s : StN} {k : Int} (h1 : 1 ≤ k) (h4 : k ≤ 4) : (cntL s)[k.toNat]? = some (cntN s k : Int) := by
  obtain rfl | rfl | rfl | rfl : k = 1 ∨ k = 2 ∨ k = 3 ∨ k = 4 := by omega
  all_goals rfl
def MkRE (h : SHeap) (lo m e r n : Nat) (nm : ByteArray) (E : List Int) (s : StN) : Prop := ∃ tag V, MkR h lo m e r n nm E tag V (cntL s) s ∧ WfS s
/-- Behind a call: what was there ahead of the maker stands. -/
def AftR (h H : SHeap) (lo : Nat) : Prop := (∀ i, i < lo → H.get i = h.get i) ∧ h.next ≤ H.next ∧ H.floor = h.floor

noncomputable def Q4 : Code := rt (rt (rt (Tryd.f57.body.getD .skip)))
noncomputable def Q7 : Code := rt (rt Q4)
noncomputable def Q8 : Code := rt Q7
noncomputable def Q9 : Code := rt Q8
noncomputable def Q10 : Code := rt Q9
set_option maxHeartbeats 4000000 in
/-- The count, the name and the row are written. -/
theorem Jiv {T : Tr} {H0 : SHeap} {at_ : Nat} {x : RowN} {K : Kont} {kd end_ : Int} {b : Nat} (hp : MkR H0 lo m e r n nm E tag V (cntL s) s) (hx : s.rows[at_]? = some x) (h1 : 1 ≤ kd) (h4 : kd ≤ 4) (hw : WfS s) (hth : s.things.length < 100000) (hE : E[at_]? = some end_)
    (h87 : ∀ h', call 87 [iv kd] h' = some (iv (J3g kd), h'))
    (t0 : T.get 0 = .pointer (some ⟨m, 0, none⟩)) (t1 : T.get 1 = iv at_) (t2 : T.get 2 = iv kd) (t7 : T.get 7 = .pointer (some ⟨b, 0, none⟩)) (hbx : H0.get b = .row (J0e x) 46 false false) (hbl : b < H0.next) (hbt : tag b = 11)
    (hk1 : ∀ T', (cntN s kd : Int) = J3g kd → T'.get 6 = iv 3 → K.ap Tryd.prog call N .ret ⟨T', H0⟩)
    (hk2 : ∀ T' H tag' V', (cntN s kd : Int) ≠ J3g kd → (∀ t, t ≤ 8 → t ≠ 6 → t ≠ 8 → T'.get t = T.get t) → MkR H lo m e r n nm E tag' V' ((cntL s).set kd.toNat ((cntN s kd : Int) + 1)) { s with rows := setN s.rows at_ (cntN s kd), things := s.things ++ [⟨x.name, kd, (cntN s kd : Int), end_⟩] } →
      (∀ i, i < H0.next → tag' i = tag i) → (∀ i, i < H0.next → i < lo ∨ tag i = 11 → H.get i = H0.get i) → H0.next ≤ H.next → H.floor = H0.floor → WK Tryd.prog call N Q10 ⟨T', H⟩ K) : WK Tryd.prog call N Q4 ⟨T, H0⟩ K := by
  show WK _ _ _ (.seq _ (.seq _ (.seq _ (.seq (.region _ _ true) (.seq _ Q10))))) _ _
  have cle := JdD hw kd
  obtain ⟨kn, hkn, hkn1, hkn4⟩ : ∃ kn : Nat, kd = (kn : Int) ∧ 1 ≤ kn ∧ kn ≤ 4 := ⟨kd.toNat, by omega, by omega, by omega⟩
  have hcg := Jev (s := s) h1 h4
  have hkt : kd.toNat = kn := by omega
  rw [hkt] at hcg hk2
  have cc := hp.cC hcg
  have i91 : J0R Tryd.prog 91 (.pointer (some ⟨m, 10, none⟩)) (iv kd) = some (.pointer (some ⟨m, 10 + kn, none⟩)) := by rw [hkn]; exact JjP (by omega)
  have w1 : IntKind.i64.wrap ((cntN s kd : Int) + 1) = (cntN s kd : Int) + 1 := J0s (by omega) (by omega)
  have z10 : 0 + 10 = 10 := rfl
  cases d1 : ((cntN s kd : Int) == J3g kd) with
  | true =>
    simp only [evC, sop, J00, J01, evs, resS, resV, ↓reduceIte, Nat.reduceEqDiff, reduceCtorEq, ↓evP, rpC, Nat.reduceAdd, Nat.reduceLT, t0, t1, t2, t7, Jae, z10, i91, cc, h87, d1]
    exact hk1 _ (by simpa using d1) (by simp only [Tr.get_put, if_true])
  | false =>
    have sC := hp.stC (i := kn) (by simp only [cntL, List.length_cons, List.length_nil]; omega) (x := (cntN s kd : Int) + 1)
    simp only [evC, sop, J00, J01, evs, resS, resV, ↓reduceIte, Nat.reduceEqDiff, reduceCtorEq, ↓evP, rpD, J0G, J0X, J2t, Nat.reduceAdd, Nat.reduceLT, t0, t1, t2, t7, Jae, z10, i91, cc, h87, d1, w1, sC]
    have keep1 : ∀ i, i < H0.next → i < lo ∨ tag i = 11 → (H0.put m (.row (J1p nm r n V s.miss e E.length ((cntL s).set kn ((cntN s kd : Int) + 1))) 93 false false)).get i = H0.get i := fun i _ hi => by
      have := hp.lm
      exact J05 hp.lm.2 (fun hh => by subst hh; have := hp.tm; omega)
    have hp1 := hp.cellW (C' := (cntL s).set kn ((cntN s kd : Int) + 1)) (miss' := s.miss)
    have hn1 : (H0.put m (.row (J1p nm r n V s.miss e E.length ((cntL s).set kn ((cntN s kd : Int) + 1))) 93 false false)).next = H0.next := rfl
    have hf1 : (H0.put m (.row (J1p nm r n V s.miss e E.length ((cntL s).set kn ((cntN s kd : Int) + 1))) 93 false false)).floor = H0.floor := rfl
    generalize H0.put m (.row (J1p nm r n V s.miss e E.length ((cntL s).set kn ((cntN s kd : Int) + 1))) 93 false false) = H1 at *
    have gb : H1.get b = .row (J0e x) 46 false false := by rw [keep1 b hbl (.inr hbt)]; exact hbx
    have c8 := hp1.c8
    have c9 := hp1.c9
    have hEl : at_ < E.length := (List.getElem?_eq_some_iff.1 hE).1
    have lE : ld1 at_ (H1.get e) = some (iv end_) := by rw [hp1.ends]; exact J2z hE
    have lb1 : ld1 1 (H1.get b) = some (.string x.name) := by rw [gb]; rfl
    obtain ⟨v', H2, a1, a2, a3, a4, a5, a6, a7, a8⟩ := hp1.grow (j := 8) (by decide) (by decide) (t := 90) (w := 4) (bb := 40) Tryd.underlying90 Jh7 JjH J9G rfl (by decide) (by decide) (xs := [.string x.name, iv kd, iv (cntN s kd : Int), iv end_]) (J7t _) (J7a _) rfl rfl (by show s.things.length < 10000000; omega)
    have hp2 := a8 { s with things := s.things ++ [⟨x.name, kd, (cntN s kd : Int), end_⟩] } rfl rfl (by simp [slN]) (by simp [slC, J4t, thC]) (fun i hi => by
      unfold slN slC
      split <;> simp_all)
    have a1' : J1o Tryd.prog (H1.push (.row [.string x.name, iv kd, iv (cntN s kd : Int), iv end_] 121 false false)) 90 (V 8) (.slice (some ⟨H1.next, 0, none⟩) 1 1) = some (v', H2) := a1
    have sV := hp1.stV a4 a5 sz90 (j := 8) (p := 9) (.inr ⟨rfl, rfl⟩) a3 a2
    refine WK.quiet (by kernel_rfl) ?_
    simp only [evC, sop, J00, J01, evs, resS, resV, ↓reduceIte, Nat.reduceEqDiff, reduceCtorEq, ↓evP, rpD, J0G, J0X, J2t, Nat.reduceAdd, Nat.reduceLT, t0, t1, t2, t7, J19, J3K, J4B, J0n, c8, c9, lb1, J1F hEl, lE, Jem, bs90, a1', sV]
    have hm2 : m < H2.next := by have := hp.lm; omega
    have keep2 : ∀ i, i < H0.next → i < lo ∨ tag i = 11 → (H2.put m (.row (J1p nm r n (upd V 8 v') s.miss e E.length ((cntL s).set kn ((cntN s kd : Int) + 1))) 93 false false)).get i = H0.get i := fun i h1 hi => by
      have := hp.lm
      rw [J05 hm2 (fun hh => by subst hh; have := hp.tm; omega), a7 i (by omega) hi, keep1 i h1 hi]
    have hn2 : (H2.put m (.row (J1p nm r n (upd V 8 v') s.miss e E.length ((cntL s).set kn ((cntN s kd : Int) + 1))) 93 false false)).next = H0.next + 2 := by show H2.next = _; omega
    have hf2 : (H2.put m (.row (J1p nm r n (upd V 8 v') s.miss e E.length ((cntL s).set kn ((cntN s kd : Int) + 1))) 93 false false)).floor = H0.floor := by show H2.floor = _; omega
    have e0 : ({ s with miss := s.miss } : StN) = s := rfl
    generalize H2.put m (.row (J1p nm r n (upd V 8 v') s.miss e E.length ((cntL s).set kn ((cntN s kd : Int) + 1))) 93 false false) = H3 at *
    have b1 := hp2.c1
    have hlt : at_ < n := (hp.row hx).1
    have hst := stc (off := at_ * 5 + 3) sz3 (v := iv (cntN s kd : Int)) rfl rfl hp2.rows (by rw [J0N]; have := hp.len; show at_ * 5 + 3 < s.rows.length * 5; omega) (by have := hp2.fl; have := hp2.lr.1; omega)
    have hx' : ({ s with things := s.things ++ [⟨x.name, kd, (cntN s kd : Int), end_⟩] } : StN).rows[at_]? = some x := hx
    rw [J3N hx'] at hst
    have hp3 := hp2.rowsW (l := setN s.rows at_ (cntN s kd : Int)) J4N
    simp only [evC, sop, J00, J01, evs, resS, resV, ↓reduceIte, Nat.reduceEqDiff, reduceCtorEq, ↓evP, rpD, J0G, J0X, J2t, Nat.reduceAdd, Nat.reduceLT, t0, t1, t2, t7, J0z, J0y, J0F, b1, J4z hlt, J0O, hst]
    refine hk2 _ _ _ _ (by simpa using d1) (fun t h8 h6 h9 => ?_) hp3 (fun i hi => if_neg (by omega)) (fun i h1 hi => ?_) (by show H0.next ≤ H3.next; omega) hf2
    · simp only [Tr.get_put, Option.some.injEq, reduceCtorEq, if_false]
      (repeat rw [if_neg (by omega)])
    · have := hp.lr
      rw [J05 (by omega) (fun hh => by subst hh; have := hp.tr; omega)]
      exact keep2 i h1 hi
/-- The list of the row's kind grows. -/
theorem Jfi {s : StN} {at_ : Nat} {x : RowN} {kd : Int} (h1 : 1 ≤ kd) (h4 : kd ≤ 4) : (cntL s).set kd.toNat ((cntN s kd : Int) + 1) = cntL (appS kd at_ x s) := by
  obtain rfl | rfl | rfl | rfl : kd = 1 ∨ kd = 2 ∨ kd = 3 ∨ kd = 4 := by omega
  all_goals simp [cntL, appS, cntN]
set_option maxHeartbeats 4000000 in
theorem Jek {T : Tr} {H0 : SHeap} {at_ : Nat} {x : RowN} {K : Kont} {kd : Int} {b : Nat} (hp : MkR H0 lo m e r n nm E tag V C s) (h1 : 1 ≤ kd) (h4 : kd ≤ 4) (hn : at_ < 1099511627776)
    (hb : s.queues.length < 1000 ∧ s.vars.length < 1000 ∧ s.tags.length < 1000 ∧ s.rules.length < 1000 ∧ s.on.length < 1000)
    (t0 : T.get 0 = .pointer (some ⟨m, 0, none⟩)) (t1 : T.get 1 = iv at_) (t2 : T.get 2 = iv kd) (t7 : T.get 7 = .pointer (some ⟨b, 0, none⟩)) (hbx : H0.get b = .row (J0e x) 46 false false) (hbl : b < H0.next) (hbt : tag b = 11)
    (hk : ∀ T' H tag' V', T'.get 6 = iv 0 → MkR H lo m e r n nm E tag' V' C (appS kd at_ x s) → (∀ i, i < H0.next → i < lo → H.get i = H0.get i) → H0.next ≤ H.next → H.floor = H0.floor → K.ap Tryd.prog call N .ret ⟨T', H⟩) : WK Tryd.prog call N Q10 ⟨T, H0⟩ K := by
  show WK _ _ _ (.seq (.seq _ (.block _ _)) (.seq _ _)) _ _
  have lb1 : ld1 1 (H0.get b) = some (.string x.name) := by rw [hbx]; rfl
  have lb0 : ld1 0 (H0.get b) = some (iv x.kind) := by rw [hbx]; rfl
  have hm := hp.lm
  have w1 : IntKind.i64.wrap ((at_ : Int) + 1) = (at_ : Int) + 1 := J0s (by omega) (by omega)
  have q1 : ((2 : Int) == 1) = false := rfl
  have q2 : ((3 : Int) == 1) = false := rfl
  have q3 : ((3 : Int) == 2) = false := rfl
  have q4 : ((4 : Int) == 1) = false := rfl
  have q5 : ((4 : Int) == 2) = false := rfl
  have q6 : ((4 : Int) == 3) = false := rfl
  have fin : ∀ (T' : Tr) (h1 : SHeap) tag' V' s', T'.get 6 = iv 0 → MkR h1 lo m e r n nm E tag' V' C s' → s' = appS kd at_ x s → (∀ i, i < H0.next → i < lo → h1.get i = H0.get i) → H0.next ≤ h1.next → h1.floor = H0.floor → K.ap Tryd.prog call N .ret ⟨T', h1⟩ := fun T' h1 tag' V' s' a b c d e f => hk T' h1 tag' V' a (by rw [← c]; exact b) d e f
  obtain rfl | rfl | rfl | rfl : kd = 1 ∨ kd = 2 ∨ kd = 3 ∨ kd = 4 := by omega
  · have cj := hp.c2
    obtain ⟨v', H2, a1, a2, a3, a4, a5, a6, a7, a8⟩ := hp.grow (j := 2) (by decide) (by decide) (t := 26) (w := 2) (bb := 24) Tryd.underlying26 sz57 by57 J9V rfl (by decide) (by decide) (xs := [.string x.name, .bool (x.kind == 3)]) (J2J _) (J5A _) rfl rfl (by show s.queues.length < 10000000; omega)
    have hp2 := a8 { s with queues := s.queues ++ [(x.name, x.kind == 3)] } rfl rfl (by simp [slN]) (by simp [slC, J3S]) (fun i hi => by
      unfold slN slC
      split <;> simp_all)
    have a1' : J1o Tryd.prog (H0.push (.row [.string x.name, .bool (x.kind == 3)] 57 false false)) 26 (V 2) (.slice (some ⟨H0.next, 0, none⟩) 1 1) = some (v', H2) := a1
    have sV := hp.stV a4 a5 sz26 (j := 2) (p := 2) (.inl ⟨rfl, by decide, by decide⟩) a3 a2
    simp only [evC, sop, J00, J01, evs, resS, resV, ↓reduceIte, Nat.reduceEqDiff, reduceCtorEq, ↓evP, rpC, Nat.reduceAdd, Nat.reduceLT, t0, t1, t2, t7, q1, q2, q3]
    refine WK.quiet (by kernel_rfl) ?_
    simp only [evC, sop, J00, J01, evs, resS, resV, ↓reduceIte, Nat.reduceEqDiff, reduceCtorEq, ↓evP, rpD, J0G, J0X, J2t, Nat.reduceAdd, Nat.reduceLT, t0, t1, t2, t7, J0z, J0B, J0S, cj, lb0, lb1, J2q, bs26, a1', sV]
    have o2 : ∀ i, i < H0.next → i < lo → (H2.put m (.row (J1p nm r n (upd V 2 v') s.miss e E.length C) 93 false false)).get i = H0.get i := fun i hi h1 => by rw [J05 (by omega) (by omega), a7 i hi (.inl h1)]
    have n2 : (H2.put m (.row (J1p nm r n (upd V 2 v') s.miss e E.length C) 93 false false)).next = H0.next + 2 := a6
    have f2 : (H2.put m (.row (J1p nm r n (upd V 2 v') s.miss e E.length C) 93 false false)).floor = H0.floor := a5
    generalize H2.put m (.row (J1p nm r n (upd V 2 v') s.miss e E.length C) 93 false false) = H3 at *
    have ck := hp2.c6
    obtain ⟨v2, H4, b1, b2, b3, b4, b5, b6, b7, b8⟩ := hp2.grow (j := 6) (by decide) (by decide) (t := 28) (w := 1) (bb := 8) Tryd.underlying28 sz3 by3 J8P rfl (by decide) (by decide) (xs := [iv (-1)]) ((J1h _).trans (Nat.mul_one _).symm) (J5u _) rfl rfl (by show s.on.length < 10000000; omega)
    have hp4 := b8 { s with queues := s.queues ++ [(x.name, x.kind == 3)], on := s.on ++ [-1] } rfl rfl (by simp [slN]) (by simp [slC, ints]) (fun i hi => by
      unfold slN slC
      split <;> simp_all)
    have b1' : J1o Tryd.prog (H3.push (.row [iv (-1)] 3 false false)) 28 (upd V 2 v' 6) (.slice (some ⟨H3.next, 0, none⟩) 1 1) = some (v2, H4) := b1
    have sW := hp2.stV b4 b5 sz28 (j := 6) (p := 6) (.inl ⟨rfl, by decide, by decide⟩) b3 b2
    simp only [evC, sop, J00, J01, evs, resS, resV, ↓reduceIte, Nat.reduceEqDiff, reduceCtorEq, ↓evP, rpD, J0G, J0X, J2t, Nat.reduceAdd, Nat.reduceLT, t0, t1, t2, t7, J0z, J1T, J0n, ck, bs28, b1', sW]
    refine fin _ _ _ _ _ (by simp only [Tr.get_put, if_true]) hp4 rfl (fun i hi h1 => ?_) (by show H0.next ≤ H4.next; omega) (by show H4.floor = _; omega)
    rw [J05 (by omega) (by omega), b7 i (by omega) (.inl h1), o2 i hi h1]
  · have cj := hp.c3
    obtain ⟨v', H2, a1, a2, a3, a4, a5, a6, a7, a8⟩ := hp.grow (j := 3) (by decide) (by decide) (t := 27) (w := 1) (bb := 16) Tryd.underlying27 sz9 by9 Jdg rfl (by decide) (by decide) (xs := [.string x.name]) ((J4W _).trans (Nat.mul_one _).symm) (J6e _) rfl rfl (by show s.vars.length < 10000000; omega)
    have hp2 := a8 { s with vars := s.vars ++ [x.name] } rfl rfl (by simp [slN]) (by simp [slC, strs]) (fun i hi => by
      unfold slN slC
      split <;> simp_all)
    have a1' : J1o Tryd.prog (H0.push (.row [.string x.name] 9 false false)) 27 (V 3) (.slice (some ⟨H0.next, 0, none⟩) 1 1) = some (v', H2) := a1
    have sV := hp.stV a4 a5 sz27 (j := 3) (p := 3) (.inl ⟨rfl, by decide, by decide⟩) a3 a2
    simp only [evC, sop, J00, J01, evs, resS, resV, ↓reduceIte, Nat.reduceEqDiff, reduceCtorEq, ↓evP, rpC, Nat.reduceAdd, Nat.reduceLT, t0, t1, t2, t7, q1, q2, q3]
    refine WK.quiet (by kernel_rfl) ?_
    simp only [evC, sop, J00, J01, evs, resS, resV, ↓reduceIte, Nat.reduceEqDiff, reduceCtorEq, ↓evP, rpD, J0G, J0X, J2t, Nat.reduceAdd, Nat.reduceLT, t0, t1, t2, t7, J0z, J1A, J0Y, cj, lb0, lb1, bs27, a1', sV]
    refine fin _ _ _ _ _ (by simp only [Tr.get_put, if_true]) hp2 rfl (fun i hi h1 => ?_) (by show H0.next ≤ H2.next; omega) a5
    rw [J05 (by omega) (by omega), a7 i hi (.inl h1)]
  · have cj := hp.c4
    obtain ⟨v', H2, a1, a2, a3, a4, a5, a6, a7, a8⟩ := hp.grow (j := 4) (by decide) (by decide) (t := 27) (w := 1) (bb := 16) Tryd.underlying27 sz9 by9 Jdg rfl (by decide) (by decide) (xs := [.string x.name]) ((J4W _).trans (Nat.mul_one _).symm) (J6e _) rfl rfl (by show s.tags.length < 10000000; omega)
    have hp2 := a8 { s with tags := s.tags ++ [x.name] } rfl rfl (by simp [slN]) (by simp [slC, strs]) (fun i hi => by
      unfold slN slC
      split <;> simp_all)
    have a1' : J1o Tryd.prog (H0.push (.row [.string x.name] 9 false false)) 27 (V 4) (.slice (some ⟨H0.next, 0, none⟩) 1 1) = some (v', H2) := a1
    have sV := hp.stV a4 a5 sz27 (j := 4) (p := 4) (.inl ⟨rfl, by decide, by decide⟩) a3 a2
    simp only [evC, sop, J00, J01, evs, resS, resV, ↓reduceIte, Nat.reduceEqDiff, reduceCtorEq, ↓evP, rpC, Nat.reduceAdd, Nat.reduceLT, t0, t1, t2, t7, q1, q2, q3]
    refine WK.quiet (by kernel_rfl) ?_
    simp only [evC, sop, J00, J01, evs, resS, resV, ↓reduceIte, Nat.reduceEqDiff, reduceCtorEq, ↓evP, rpD, J0G, J0X, J2t, Nat.reduceAdd, Nat.reduceLT, t0, t1, t2, t7, J0z, J1B, J0Y, cj, lb0, lb1, bs27, a1', sV]
    refine fin _ _ _ _ _ (by simp only [Tr.get_put, if_true]) hp2 rfl (fun i hi h1 => ?_) (by show H0.next ≤ H2.next; omega) a5
    rw [J05 (by omega) (by omega), a7 i hi (.inl h1)]
  · have cj := hp.c5
    obtain ⟨v', H2, a1, a2, a3, a4, a5, a6, a7, a8⟩ := hp.grow (j := 5) (by decide) (by decide) (t := 28) (w := 1) (bb := 8) Tryd.underlying28 sz3 by3 J8P rfl (by decide) (by decide) (xs := [iv ((at_ : Int) + 1)]) ((J1h _).trans (Nat.mul_one _).symm) (J5u _) rfl rfl (by show s.rules.length < 10000000; omega)
    have hp2 := a8 { s with rules := s.rules ++ [(at_ : Int) + 1] } rfl rfl (by simp [slN]) (by simp [slC, ints]) (fun i hi => by
      unfold slN slC
      split <;> simp_all)
    have a1' : J1o Tryd.prog (H0.push (.row [iv ((at_ : Int) + 1)] 3 false false)) 28 (V 5) (.slice (some ⟨H0.next, 0, none⟩) 1 1) = some (v', H2) := a1
    have sV := hp.stV a4 a5 sz28 (j := 5) (p := 5) (.inl ⟨rfl, by decide, by decide⟩) a3 a2
    simp only [evC, sop, J00, J01, evs, resS, resV, ↓reduceIte, Nat.reduceEqDiff, reduceCtorEq, ↓evP, rpD, J0G, J0X, J2t, Nat.reduceAdd, Nat.reduceLT, t0, t1, t2, t7, q4, q5, q6, w1, J0z, J36, J0n, cj, bs28, a1', sV]
    refine fin _ _ _ _ _ (by simp only [Tr.get_put, if_true]) hp2 rfl (fun i hi h1 => ?_) (by show H0.next ≤ H2.next; omega) a5
    rw [J05 (by omega) (by omega), a7 i hi (.inl h1)]
end
end Go.Proofs.YtipekdhneagdbaaDoor
