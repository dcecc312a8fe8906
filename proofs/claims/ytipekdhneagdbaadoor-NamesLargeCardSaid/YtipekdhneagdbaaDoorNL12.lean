/- Part 12 of what the claim leans on: 4 texts laid one behind another. -/
import Derived.Test.YtipekdhneagdbaaDoorNL11
namespace Go.Proofs.YtipekdhneagdbaaDoor
open Go Go.Sx
set_option maxRecDepth 100000
set_option linter.unusedSimpArgs false
set_option linter.unusedVariables false
section
variable {h : SHeap} {lo m k c e r n : Nat} {nm : ByteArray} {E : List Int} {tag : Nat → Nat} {vq vv vt vu vo : Value} {es : List (Value × Value)} {s : StN}
theorem JbV {l : List (ByteArray × Bool)} {x : ByteArray × Bool} : J3S l ++ [.string x.1, .bool x.2] = J3S (l ++ [x]) := by simp [J3S]
theorem Jau {l : List ByteArray} {x : ByteArray} : strs l ++ [.string x] = strs (l ++ [x]) := by simp [strs]
theorem Jat {l : List Int} {x : Int} : ints l ++ [iv x] = ints (l ++ [x]) := by simp [ints]
theorem MkP.appQ (hp : MkP h lo m k c e r n nm E tag vq vv vt vu vo es s) (x : (ByteArray × Bool)) (hb : s.queues.length < 10000000) : ∃ v' h1, J1o Tryd.prog (h.push (.row [.string x.1, .bool x.2] 57 false false)) 26 vq (.slice (some ⟨h.next, 0, none⟩) 1 1) = some (v', h1) ∧ h1.get m = h.get m ∧ one v' = true ∧ v'.cells = #[v'] ∧ h1.floor = h.floor ∧ h1.next = h.next + 2 ∧ (∀ i, i < h.next → i < lo ∨ 11 ≤ tag i → h1.get i = h.get i) ∧
  MkP (h1.put m (.row [.string nm, .slice (some ⟨r, 0, none⟩) n unk, v', vv, vt, vu, vo, iv s.miss, .map (some k), .map (some c)] 83 false false)) lo m k c e r n nm E (fun i => if i = h.next + 1 then 2 else tag i) v' vv vt vu vo es { s with queues := s.queues ++ [x] } := by
 have hlm := hp.lm
 have hpp := hp.mono (h' := h.push (.row [.string x.1, .bool x.2] 57 false false)) (tag' := fun i => if i = h.next then 11 else tag i) (by show h.next ≤ h.next + 1; omega) rfl (fun i hi => if_neg (by omega)) fun i _ hi => J06 hi
 obtain ⟨v', h1, a1, a2, a3, a4, a5, a6, a7⟩ := J3B (et := 57) (w := 2) (c := 1) (sc := 1) (xs := [.string x.1, .bool x.2]) Tryd.underlying26 sz57 by57 J9V rfl (by decide) (by decide) hpp.pol.q (J2J _) (J5A _) rfl rfl (by decide) (by decide) hb (src := h.next) J0h (by show h.next < h.next + 1; omega) hp.fl (by simp)
 have hnx : h1.next = h.next + 2 := a4
 have hold : ∀ i, i < h.next → ¬ (lo ≤ i ∧ tag i = 2) → h1.get i = h.get i := fun i hi hne => by
  rw [a7 i (by show i < h.next + 1; omega) (by rw [if_neg (by omega)]; exact hne), J06 hi]
 have hm1 : m < h1.next := by omega
 have hgm : h1.get m = h.get m := hold m hlm.2 (by rw [hp.tm]; omega)
 have hSl : SlAt h1 lo (fun i => if i = h.next + 1 then 2 else tag i) 2 v' (s.queues.length + 1) (J3S s.queues ++ [.string x.1, .bool x.2]) 57 := by
  rcases a2 with a2 | a2
  ·refine a2.mono' fun i hi => ?_
   show (if i = h.next + 1 then 2 else tag i) = (if i = h.next + 1 then 2 else if i = h.next then 11 else tag i) ∨ (if i = h.next + 1 then 2 else if i = h.next then 11 else tag i) ≠ 2
   by_cases e1 : i = h.next + 1
   ·left; rw [if_pos e1, if_pos e1]
   ·rw [if_neg e1, if_neg e1]
    by_cases e2 : i = h.next
    ·right; rw [if_pos e2]; decide
    ·left; rw [if_neg e2]
  ·exact absurd (show lo ≤ h.next + 1 by omega) a2
 refine ⟨v', h1, a1, hgm, a5, a6, a3, hnx, fun i hi hlo => hold i hi (by omega), ?_⟩
 have hn2 : h.next ≤ (h1.put m (.row [.string nm, .slice (some ⟨r, 0, none⟩) n unk, v', vv, vt, vu, vo, iv s.miss, .map (some k), .map (some c)] 83 false false)).next := by show h.next ≤ h1.next; omega
 have ht2 : ∀ i, i < h.next → (fun i => if i = h.next + 1 then 2 else tag i) i = tag i := fun i hi => if_neg (by omega)
 have hg2 : ∀ i, lo ≤ i → i < h.next → tag i ≠ 0 → tag i ≠ 2 → (h1.put m (.row [.string nm, .slice (some ⟨r, 0, none⟩) n unk, v', vv, vt, vu, vo, iv s.miss, .map (some k), .map (some c)] 83 false false)).get i = h.get i := fun i h1' h2 h3 h4 => by
  rw [J05 hm1 (J1Y (tag := tag) (by rw [hp.tm]; exact h3.symm)), hold i h2 (fun e => h4 e.2)]
 have hgj : ∀ jj, jj ≠ 0 → jj ≠ 2 → (jj ≠ 2) → ∀ i, lo ≤ i → i < h.next → tag i = jj → (h1.put m (.row [.string nm, .slice (some ⟨r, 0, none⟩) n unk, v', vv, vt, vu, vo, iv s.miss, .map (some k), .map (some c)] 83 false false)).get i = h.get i := fun jj z1 z2 _ i h1' h2 h3 => hg2 i h1' h2 (by omega) (by omega)
 refine hp.pol' hn2 a3 ht2 (fun i h1' h2 h3 => hg2 i h1' h2 (by omega) (by omega)) (J0b rfl hm1) ?_ rfl
 exact
  { rows := by rw [hg2 r hp.pol.lr.1 hp.pol.lr.2 (by rw [hp.pol.tr]; decide) (by rw [hp.pol.tr]; decide)]; exact hp.pol.rows
    len := hp.pol.len
    tr := (ht2 r hp.pol.lr.2).trans hp.pol.tr
    lr := ⟨hp.pol.lr.1, by have := hp.pol.lr.2; omega⟩
    q := by
     have h9 := hSl.mono (h' := (h1.put m (.row [.string nm, .slice (some ⟨r, 0, none⟩) n unk, v', vv, vt, vu, vo, iv s.miss, .map (some k), .map (some c)] 83 false false))) (Nat.le_refl _) (fun _ _ => rfl) fun i _ _ h3 => J05 hm1 (J1Y (tag := fun i => if i = h.next + 1 then 2 else tag i) (by rw [h3]; show (if m = h.next + 1 then _ else tag m) ≠ _; rw [if_neg (by omega), hp.tm]; decide))
     rw [JbV] at h9
     simp only [List.length_append, List.length_cons, List.length_nil]
     exact h9
    v := hp.pol.v.mono hn2 ht2 (hgj 3 (by decide) (by decide) (by decide))
    t := hp.pol.t.mono hn2 ht2 (hgj 4 (by decide) (by decide) (by decide))
    u := hp.pol.u.mono hn2 ht2 (hgj 5 (by decide) (by decide) (by decide))
    o := hp.pol.o.mono hn2 ht2 (hgj 6 (by decide) (by decide) (by decide)) }
theorem MkP.appV (hp : MkP h lo m k c e r n nm E tag vq vv vt vu vo es s) (x : ByteArray) (hb : s.vars.length < 10000000) : ∃ v' h1, J1o Tryd.prog (h.push (.row [.string x] 9 false false)) 27 vv (.slice (some ⟨h.next, 0, none⟩) 1 1) = some (v', h1) ∧ h1.get m = h.get m ∧ one v' = true ∧ v'.cells = #[v'] ∧ h1.floor = h.floor ∧ h1.next = h.next + 2 ∧ (∀ i, i < h.next → i < lo ∨ 11 ≤ tag i → h1.get i = h.get i) ∧
  MkP (h1.put m (.row [.string nm, .slice (some ⟨r, 0, none⟩) n unk, vq, v', vt, vu, vo, iv s.miss, .map (some k), .map (some c)] 83 false false)) lo m k c e r n nm E (fun i => if i = h.next + 1 then 3 else tag i) vq v' vt vu vo es { s with vars := s.vars ++ [x] } := by
 have hlm := hp.lm
 have hpp := hp.mono (h' := h.push (.row [.string x] 9 false false)) (tag' := fun i => if i = h.next then 11 else tag i) (by show h.next ≤ h.next + 1; omega) rfl (fun i hi => if_neg (by omega)) fun i _ hi => J06 hi
 obtain ⟨v', h1, a1, a2, a3, a4, a5, a6, a7⟩ := J3B (et := 9) (w := 1) (c := 1) (sc := 1) (xs := [.string x]) Tryd.underlying27 sz9 by9 Jdg rfl (by decide) (by decide) hpp.pol.v (by rw [Nat.mul_one]; exact J4W _) (J6e _) rfl rfl (by decide) (by decide) hb (src := h.next) J0h (by show h.next < h.next + 1; omega) hp.fl (by simp)
 have hnx : h1.next = h.next + 2 := a4
 have hold : ∀ i, i < h.next → ¬ (lo ≤ i ∧ tag i = 3) → h1.get i = h.get i := fun i hi hne => by
  rw [a7 i (by show i < h.next + 1; omega) (by rw [if_neg (by omega)]; exact hne), J06 hi]
 have hm1 : m < h1.next := by omega
 have hgm : h1.get m = h.get m := hold m hlm.2 (by rw [hp.tm]; omega)
 have hSl : SlAt h1 lo (fun i => if i = h.next + 1 then 3 else tag i) 3 v' (s.vars.length + 1) (strs s.vars ++ [.string x]) 9 := by
  rcases a2 with a2 | a2
  ·refine a2.mono' fun i hi => ?_
   show (if i = h.next + 1 then 3 else tag i) = (if i = h.next + 1 then 3 else if i = h.next then 11 else tag i) ∨ (if i = h.next + 1 then 3 else if i = h.next then 11 else tag i) ≠ 3
   by_cases e1 : i = h.next + 1
   ·left; rw [if_pos e1, if_pos e1]
   ·rw [if_neg e1, if_neg e1]
    by_cases e2 : i = h.next
    ·right; rw [if_pos e2]; decide
    ·left; rw [if_neg e2]
  ·exact absurd (show lo ≤ h.next + 1 by omega) a2
 refine ⟨v', h1, a1, hgm, a5, a6, a3, hnx, fun i hi hlo => hold i hi (by omega), ?_⟩
 have hn2 : h.next ≤ (h1.put m (.row [.string nm, .slice (some ⟨r, 0, none⟩) n unk, vq, v', vt, vu, vo, iv s.miss, .map (some k), .map (some c)] 83 false false)).next := by show h.next ≤ h1.next; omega
 have ht2 : ∀ i, i < h.next → (fun i => if i = h.next + 1 then 3 else tag i) i = tag i := fun i hi => if_neg (by omega)
 have hg2 : ∀ i, lo ≤ i → i < h.next → tag i ≠ 0 → tag i ≠ 3 → (h1.put m (.row [.string nm, .slice (some ⟨r, 0, none⟩) n unk, vq, v', vt, vu, vo, iv s.miss, .map (some k), .map (some c)] 83 false false)).get i = h.get i := fun i h1' h2 h3 h4 => by
  rw [J05 hm1 (J1Y (tag := tag) (by rw [hp.tm]; exact h3.symm)), hold i h2 (fun e => h4 e.2)]
 have hgj : ∀ jj, jj ≠ 0 → jj ≠ 3 → (jj ≠ 3) → ∀ i, lo ≤ i → i < h.next → tag i = jj → (h1.put m (.row [.string nm, .slice (some ⟨r, 0, none⟩) n unk, vq, v', vt, vu, vo, iv s.miss, .map (some k), .map (some c)] 83 false false)).get i = h.get i := fun jj z1 z2 _ i h1' h2 h3 => hg2 i h1' h2 (by omega) (by omega)
 refine hp.pol' hn2 a3 ht2 (fun i h1' h2 h3 => hg2 i h1' h2 (by omega) (by omega)) (J0b rfl hm1) ?_ rfl
 exact
  { rows := by rw [hg2 r hp.pol.lr.1 hp.pol.lr.2 (by rw [hp.pol.tr]; decide) (by rw [hp.pol.tr]; decide)]; exact hp.pol.rows
    len := hp.pol.len
    tr := (ht2 r hp.pol.lr.2).trans hp.pol.tr
    lr := ⟨hp.pol.lr.1, by have := hp.pol.lr.2; omega⟩
    q := hp.pol.q.mono hn2 ht2 (hgj 2 (by decide) (by decide) (by decide))
    v := by
     have h9 := hSl.mono (h' := (h1.put m (.row [.string nm, .slice (some ⟨r, 0, none⟩) n unk, vq, v', vt, vu, vo, iv s.miss, .map (some k), .map (some c)] 83 false false))) (Nat.le_refl _) (fun _ _ => rfl) fun i _ _ h3 => J05 hm1 (J1Y (tag := fun i => if i = h.next + 1 then 3 else tag i) (by rw [h3]; show (if m = h.next + 1 then _ else tag m) ≠ _; rw [if_neg (by omega), hp.tm]; decide))
     rw [Jau] at h9
     simp only [List.length_append, List.length_cons, List.length_nil]
     exact h9
    t := hp.pol.t.mono hn2 ht2 (hgj 4 (by decide) (by decide) (by decide))
    u := hp.pol.u.mono hn2 ht2 (hgj 5 (by decide) (by decide) (by decide))
    o := hp.pol.o.mono hn2 ht2 (hgj 6 (by decide) (by decide) (by decide)) }
theorem MkP.appT (hp : MkP h lo m k c e r n nm E tag vq vv vt vu vo es s) (x : ByteArray) (hb : s.tags.length < 10000000) : ∃ v' h1, J1o Tryd.prog (h.push (.row [.string x] 9 false false)) 27 vt (.slice (some ⟨h.next, 0, none⟩) 1 1) = some (v', h1) ∧ h1.get m = h.get m ∧ one v' = true ∧ v'.cells = #[v'] ∧ h1.floor = h.floor ∧ h1.next = h.next + 2 ∧ (∀ i, i < h.next → i < lo ∨ 11 ≤ tag i → h1.get i = h.get i) ∧
  MkP (h1.put m (.row [.string nm, .slice (some ⟨r, 0, none⟩) n unk, vq, vv, v', vu, vo, iv s.miss, .map (some k), .map (some c)] 83 false false)) lo m k c e r n nm E (fun i => if i = h.next + 1 then 4 else tag i) vq vv v' vu vo es { s with tags := s.tags ++ [x] } := by
 have hlm := hp.lm
 have hpp := hp.mono (h' := h.push (.row [.string x] 9 false false)) (tag' := fun i => if i = h.next then 11 else tag i) (by show h.next ≤ h.next + 1; omega) rfl (fun i hi => if_neg (by omega)) fun i _ hi => J06 hi
 obtain ⟨v', h1, a1, a2, a3, a4, a5, a6, a7⟩ := J3B (et := 9) (w := 1) (c := 1) (sc := 1) (xs := [.string x]) Tryd.underlying27 sz9 by9 Jdg rfl (by decide) (by decide) hpp.pol.t (by rw [Nat.mul_one]; exact J4W _) (J6e _) rfl rfl (by decide) (by decide) hb (src := h.next) J0h (by show h.next < h.next + 1; omega) hp.fl (by simp)
 have hnx : h1.next = h.next + 2 := a4
 have hold : ∀ i, i < h.next → ¬ (lo ≤ i ∧ tag i = 4) → h1.get i = h.get i := fun i hi hne => by
  rw [a7 i (by show i < h.next + 1; omega) (by rw [if_neg (by omega)]; exact hne), J06 hi]
 have hm1 : m < h1.next := by omega
 have hgm : h1.get m = h.get m := hold m hlm.2 (by rw [hp.tm]; omega)
 have hSl : SlAt h1 lo (fun i => if i = h.next + 1 then 4 else tag i) 4 v' (s.tags.length + 1) (strs s.tags ++ [.string x]) 9 := by
  rcases a2 with a2 | a2
  ·refine a2.mono' fun i hi => ?_
   show (if i = h.next + 1 then 4 else tag i) = (if i = h.next + 1 then 4 else if i = h.next then 11 else tag i) ∨ (if i = h.next + 1 then 4 else if i = h.next then 11 else tag i) ≠ 4
   by_cases e1 : i = h.next + 1
   ·left; rw [if_pos e1, if_pos e1]
   ·rw [if_neg e1, if_neg e1]
    by_cases e2 : i = h.next
    ·right; rw [if_pos e2]; decide
    ·left; rw [if_neg e2]
  ·exact absurd (show lo ≤ h.next + 1 by omega) a2
 refine ⟨v', h1, a1, hgm, a5, a6, a3, hnx, fun i hi hlo => hold i hi (by omega), ?_⟩
 have hn2 : h.next ≤ (h1.put m (.row [.string nm, .slice (some ⟨r, 0, none⟩) n unk, vq, vv, v', vu, vo, iv s.miss, .map (some k), .map (some c)] 83 false false)).next := by show h.next ≤ h1.next; omega
 have ht2 : ∀ i, i < h.next → (fun i => if i = h.next + 1 then 4 else tag i) i = tag i := fun i hi => if_neg (by omega)
 have hg2 : ∀ i, lo ≤ i → i < h.next → tag i ≠ 0 → tag i ≠ 4 → (h1.put m (.row [.string nm, .slice (some ⟨r, 0, none⟩) n unk, vq, vv, v', vu, vo, iv s.miss, .map (some k), .map (some c)] 83 false false)).get i = h.get i := fun i h1' h2 h3 h4 => by
  rw [J05 hm1 (J1Y (tag := tag) (by rw [hp.tm]; exact h3.symm)), hold i h2 (fun e => h4 e.2)]
 have hgj : ∀ jj, jj ≠ 0 → jj ≠ 4 → (jj ≠ 4) → ∀ i, lo ≤ i → i < h.next → tag i = jj → (h1.put m (.row [.string nm, .slice (some ⟨r, 0, none⟩) n unk, vq, vv, v', vu, vo, iv s.miss, .map (some k), .map (some c)] 83 false false)).get i = h.get i := fun jj z1 z2 _ i h1' h2 h3 => hg2 i h1' h2 (by omega) (by omega)
 refine hp.pol' hn2 a3 ht2 (fun i h1' h2 h3 => hg2 i h1' h2 (by omega) (by omega)) (J0b rfl hm1) ?_ rfl
 exact
  { rows := by rw [hg2 r hp.pol.lr.1 hp.pol.lr.2 (by rw [hp.pol.tr]; decide) (by rw [hp.pol.tr]; decide)]; exact hp.pol.rows
    len := hp.pol.len
    tr := (ht2 r hp.pol.lr.2).trans hp.pol.tr
    lr := ⟨hp.pol.lr.1, by have := hp.pol.lr.2; omega⟩
    q := hp.pol.q.mono hn2 ht2 (hgj 2 (by decide) (by decide) (by decide))
    v := hp.pol.v.mono hn2 ht2 (hgj 3 (by decide) (by decide) (by decide))
    t := by
     have h9 := hSl.mono (h' := (h1.put m (.row [.string nm, .slice (some ⟨r, 0, none⟩) n unk, vq, vv, v', vu, vo, iv s.miss, .map (some k), .map (some c)] 83 false false))) (Nat.le_refl _) (fun _ _ => rfl) fun i _ _ h3 => J05 hm1 (J1Y (tag := fun i => if i = h.next + 1 then 4 else tag i) (by rw [h3]; show (if m = h.next + 1 then _ else tag m) ≠ _; rw [if_neg (by omega), hp.tm]; decide))
     rw [Jau] at h9
     simp only [List.length_append, List.length_cons, List.length_nil]
     exact h9
    u := hp.pol.u.mono hn2 ht2 (hgj 5 (by decide) (by decide) (by decide))
    o := hp.pol.o.mono hn2 ht2 (hgj 6 (by decide) (by decide) (by decide)) }
theorem MkP.appU (hp : MkP h lo m k c e r n nm E tag vq vv vt vu vo es s) (x : Int) (hb : s.rules.length < 10000000) : ∃ v' h1, J1o Tryd.prog (h.push (.row [iv x] 3 false false)) 28 vu (.slice (some ⟨h.next, 0, none⟩) 1 1) = some (v', h1) ∧ h1.get m = h.get m ∧ one v' = true ∧ v'.cells = #[v'] ∧ h1.floor = h.floor ∧ h1.next = h.next + 2 ∧ (∀ i, i < h.next → i < lo ∨ 11 ≤ tag i → h1.get i = h.get i) ∧
  MkP (h1.put m (.row [.string nm, .slice (some ⟨r, 0, none⟩) n unk, vq, vv, vt, v', vo, iv s.miss, .map (some k), .map (some c)] 83 false false)) lo m k c e r n nm E (fun i => if i = h.next + 1 then 5 else tag i) vq vv vt v' vo es { s with rules := s.rules ++ [x] } := by
 have hlm := hp.lm
 have hpp := hp.mono (h' := h.push (.row [iv x] 3 false false)) (tag' := fun i => if i = h.next then 11 else tag i) (by show h.next ≤ h.next + 1; omega) rfl (fun i hi => if_neg (by omega)) fun i _ hi => J06 hi
 obtain ⟨v', h1, a1, a2, a3, a4, a5, a6, a7⟩ := J3B (et := 3) (w := 1) (c := 1) (sc := 1) (xs := [iv x]) Tryd.underlying28 sz3 by3 J8P rfl (by decide) (by decide) hpp.pol.u (by rw [Nat.mul_one]; exact J1h _) (J5u _) rfl rfl (by decide) (by decide) hb (src := h.next) J0h (by show h.next < h.next + 1; omega) hp.fl (by simp)
 have hnx : h1.next = h.next + 2 := a4
 have hold : ∀ i, i < h.next → ¬ (lo ≤ i ∧ tag i = 5) → h1.get i = h.get i := fun i hi hne => by
  rw [a7 i (by show i < h.next + 1; omega) (by rw [if_neg (by omega)]; exact hne), J06 hi]
 have hm1 : m < h1.next := by omega
 have hgm : h1.get m = h.get m := hold m hlm.2 (by rw [hp.tm]; omega)
 have hSl : SlAt h1 lo (fun i => if i = h.next + 1 then 5 else tag i) 5 v' (s.rules.length + 1) (ints s.rules ++ [iv x]) 3 := by
  rcases a2 with a2 | a2
  ·refine a2.mono' fun i hi => ?_
   show (if i = h.next + 1 then 5 else tag i) = (if i = h.next + 1 then 5 else if i = h.next then 11 else tag i) ∨ (if i = h.next + 1 then 5 else if i = h.next then 11 else tag i) ≠ 5
   by_cases e1 : i = h.next + 1
   ·left; rw [if_pos e1, if_pos e1]
   ·rw [if_neg e1, if_neg e1]
    by_cases e2 : i = h.next
    ·right; rw [if_pos e2]; decide
    ·left; rw [if_neg e2]
  ·exact absurd (show lo ≤ h.next + 1 by omega) a2
 refine ⟨v', h1, a1, hgm, a5, a6, a3, hnx, fun i hi hlo => hold i hi (by omega), ?_⟩
 have hn2 : h.next ≤ (h1.put m (.row [.string nm, .slice (some ⟨r, 0, none⟩) n unk, vq, vv, vt, v', vo, iv s.miss, .map (some k), .map (some c)] 83 false false)).next := by show h.next ≤ h1.next; omega
 have ht2 : ∀ i, i < h.next → (fun i => if i = h.next + 1 then 5 else tag i) i = tag i := fun i hi => if_neg (by omega)
 have hg2 : ∀ i, lo ≤ i → i < h.next → tag i ≠ 0 → tag i ≠ 5 → (h1.put m (.row [.string nm, .slice (some ⟨r, 0, none⟩) n unk, vq, vv, vt, v', vo, iv s.miss, .map (some k), .map (some c)] 83 false false)).get i = h.get i := fun i h1' h2 h3 h4 => by
  rw [J05 hm1 (J1Y (tag := tag) (by rw [hp.tm]; exact h3.symm)), hold i h2 (fun e => h4 e.2)]
 have hgj : ∀ jj, jj ≠ 0 → jj ≠ 5 → (jj ≠ 5) → ∀ i, lo ≤ i → i < h.next → tag i = jj → (h1.put m (.row [.string nm, .slice (some ⟨r, 0, none⟩) n unk, vq, vv, vt, v', vo, iv s.miss, .map (some k), .map (some c)] 83 false false)).get i = h.get i := fun jj z1 z2 _ i h1' h2 h3 => hg2 i h1' h2 (by omega) (by omega)
 refine hp.pol' hn2 a3 ht2 (fun i h1' h2 h3 => hg2 i h1' h2 (by omega) (by omega)) (J0b rfl hm1) ?_ rfl
 exact
  { rows := by rw [hg2 r hp.pol.lr.1 hp.pol.lr.2 (by rw [hp.pol.tr]; decide) (by rw [hp.pol.tr]; decide)]; exact hp.pol.rows
    len := hp.pol.len
    tr := (ht2 r hp.pol.lr.2).trans hp.pol.tr
    lr := ⟨hp.pol.lr.1, by have := hp.pol.lr.2; omega⟩
    q := hp.pol.q.mono hn2 ht2 (hgj 2 (by decide) (by decide) (by decide))
    v := hp.pol.v.mono hn2 ht2 (hgj 3 (by decide) (by decide) (by decide))
    t := hp.pol.t.mono hn2 ht2 (hgj 4 (by decide) (by decide) (by decide))
    u := by
     have h9 := hSl.mono (h' := (h1.put m (.row [.string nm, .slice (some ⟨r, 0, none⟩) n unk, vq, vv, vt, v', vo, iv s.miss, .map (some k), .map (some c)] 83 false false))) (Nat.le_refl _) (fun _ _ => rfl) fun i _ _ h3 => J05 hm1 (J1Y (tag := fun i => if i = h.next + 1 then 5 else tag i) (by rw [h3]; show (if m = h.next + 1 then _ else tag m) ≠ _; rw [if_neg (by omega), hp.tm]; decide))
     rw [Jat] at h9
     simp only [List.length_append, List.length_cons, List.length_nil]
     exact h9
    o := hp.pol.o.mono hn2 ht2 (hgj 6 (by decide) (by decide) (by decide)) }
theorem MkP.appO (hp : MkP h lo m k c e r n nm E tag vq vv vt vu vo es s) (x : Int) (hb : s.on.length < 10000000) : ∃ v' h1, J1o Tryd.prog (h.push (.row [iv x] 3 false false)) 28 vo (.slice (some ⟨h.next, 0, none⟩) 1 1) = some (v', h1) ∧ h1.get m = h.get m ∧ one v' = true ∧ v'.cells = #[v'] ∧ h1.floor = h.floor ∧ h1.next = h.next + 2 ∧ (∀ i, i < h.next → i < lo ∨ 11 ≤ tag i → h1.get i = h.get i) ∧
  MkP (h1.put m (.row [.string nm, .slice (some ⟨r, 0, none⟩) n unk, vq, vv, vt, vu, v', iv s.miss, .map (some k), .map (some c)] 83 false false)) lo m k c e r n nm E (fun i => if i = h.next + 1 then 6 else tag i) vq vv vt vu v' es { s with on := s.on ++ [x] } := by
 have hlm := hp.lm
 have hpp := hp.mono (h' := h.push (.row [iv x] 3 false false)) (tag' := fun i => if i = h.next then 11 else tag i) (by show h.next ≤ h.next + 1; omega) rfl (fun i hi => if_neg (by omega)) fun i _ hi => J06 hi
 obtain ⟨v', h1, a1, a2, a3, a4, a5, a6, a7⟩ := J3B (et := 3) (w := 1) (c := 1) (sc := 1) (xs := [iv x]) Tryd.underlying28 sz3 by3 J8P rfl (by decide) (by decide) hpp.pol.o (by rw [Nat.mul_one]; exact J1h _) (J5u _) rfl rfl (by decide) (by decide) hb (src := h.next) J0h (by show h.next < h.next + 1; omega) hp.fl (by simp)
 have hnx : h1.next = h.next + 2 := a4
 have hold : ∀ i, i < h.next → ¬ (lo ≤ i ∧ tag i = 6) → h1.get i = h.get i := fun i hi hne => by
  rw [a7 i (by show i < h.next + 1; omega) (by rw [if_neg (by omega)]; exact hne), J06 hi]
 have hm1 : m < h1.next := by omega
 have hgm : h1.get m = h.get m := hold m hlm.2 (by rw [hp.tm]; omega)
 have hSl : SlAt h1 lo (fun i => if i = h.next + 1 then 6 else tag i) 6 v' (s.on.length + 1) (ints s.on ++ [iv x]) 3 := by
  rcases a2 with a2 | a2
  ·refine a2.mono' fun i hi => ?_
   show (if i = h.next + 1 then 6 else tag i) = (if i = h.next + 1 then 6 else if i = h.next then 11 else tag i) ∨ (if i = h.next + 1 then 6 else if i = h.next then 11 else tag i) ≠ 6
   by_cases e1 : i = h.next + 1
   ·left; rw [if_pos e1, if_pos e1]
   ·rw [if_neg e1, if_neg e1]
    by_cases e2 : i = h.next
    ·right; rw [if_pos e2]; decide
    ·left; rw [if_neg e2]
  ·exact absurd (show lo ≤ h.next + 1 by omega) a2
 refine ⟨v', h1, a1, hgm, a5, a6, a3, hnx, fun i hi hlo => hold i hi (by omega), ?_⟩
 have hn2 : h.next ≤ (h1.put m (.row [.string nm, .slice (some ⟨r, 0, none⟩) n unk, vq, vv, vt, vu, v', iv s.miss, .map (some k), .map (some c)] 83 false false)).next := by show h.next ≤ h1.next; omega
 have ht2 : ∀ i, i < h.next → (fun i => if i = h.next + 1 then 6 else tag i) i = tag i := fun i hi => if_neg (by omega)
 have hg2 : ∀ i, lo ≤ i → i < h.next → tag i ≠ 0 → tag i ≠ 6 → (h1.put m (.row [.string nm, .slice (some ⟨r, 0, none⟩) n unk, vq, vv, vt, vu, v', iv s.miss, .map (some k), .map (some c)] 83 false false)).get i = h.get i := fun i h1' h2 h3 h4 => by
  rw [J05 hm1 (J1Y (tag := tag) (by rw [hp.tm]; exact h3.symm)), hold i h2 (fun e => h4 e.2)]
 have hgj : ∀ jj, jj ≠ 0 → jj ≠ 6 → (jj ≠ 6) → ∀ i, lo ≤ i → i < h.next → tag i = jj → (h1.put m (.row [.string nm, .slice (some ⟨r, 0, none⟩) n unk, vq, vv, vt, vu, v', iv s.miss, .map (some k), .map (some c)] 83 false false)).get i = h.get i := fun jj z1 z2 _ i h1' h2 h3 => hg2 i h1' h2 (by omega) (by omega)
 refine hp.pol' hn2 a3 ht2 (fun i h1' h2 h3 => hg2 i h1' h2 (by omega) (by omega)) (J0b rfl hm1) ?_ rfl
 exact
  { rows := by rw [hg2 r hp.pol.lr.1 hp.pol.lr.2 (by rw [hp.pol.tr]; decide) (by rw [hp.pol.tr]; decide)]; exact hp.pol.rows
    len := hp.pol.len
    tr := (ht2 r hp.pol.lr.2).trans hp.pol.tr
    lr := ⟨hp.pol.lr.1, by have := hp.pol.lr.2; omega⟩
    q := hp.pol.q.mono hn2 ht2 (hgj 2 (by decide) (by decide) (by decide))
    v := hp.pol.v.mono hn2 ht2 (hgj 3 (by decide) (by decide) (by decide))
    t := hp.pol.t.mono hn2 ht2 (hgj 4 (by decide) (by decide) (by decide))
    u := hp.pol.u.mono hn2 ht2 (hgj 5 (by decide) (by decide) (by decide))
    o := by
     have h9 := hSl.mono (h' := (h1.put m (.row [.string nm, .slice (some ⟨r, 0, none⟩) n unk, vq, vv, vt, vu, v', iv s.miss, .map (some k), .map (some c)] 83 false false))) (Nat.le_refl _) (fun _ _ => rfl) fun i _ _ h3 => J05 hm1 (J1Y (tag := fun i => if i = h.next + 1 then 6 else tag i) (by rw [h3]; show (if m = h.next + 1 then _ else tag m) ≠ _; rw [if_neg (by omega), hp.tm]; decide))
     rw [Jat] at h9
     simp only [List.length_append, List.length_cons, List.length_nil]
     exact h9 }
end
noncomputable def D5 : Code := rt (rt (rt (rt (Tryd.f51.body.getD .skip))))
noncomputable def D8 : Code := rt D5
noncomputable def D12 : Code := rt (rt (rt D8))
noncomputable def D13 : Code := rt D12
noncomputable def JdY : Array Oper := J18 Tryd.f51 5
def Jid : List (Bool × Bool × List Operand) := [(false, true, []), (false, true, []), (false, true, []), (false, true, []), (false, true, [.tmp 29]), (false, true, [.tmp 29]), (false, true, [.tmp 29]), (false, true, [.tmp 29]), (false, false, []), (false, false, []), (false, false, []), (false, false, []), (false, true, [.tmp 29, .tmp 33, .tmp 30]), (false, false, []), (false, false, [])]
theorem Jd3 : J1E JdY = Jid := by kernel_rfl
noncomputable def JaN : Array Oper := J18 Tryd.f51 12
def Jgd : List (Bool × Bool × List Operand) := [(false, true, []), (false, true, []), (false, true, []), (false, true, []), (false, true, [.tmp 58]), (false, true, [.tmp 58]), (false, true, [.tmp 58]), (false, true, [.tmp 58]), (false, true, [.tmp 58, .tmp 62]), (false, true, [.tmp 58, .tmp 62]), (false, true, [.tmp 58, .tmp 62]), (false, true, [.tmp 58, .tmp 62]), (false, true, [.tmp 58, .tmp 62]), (false, false, [])]
theorem JbS : J1E JaN = Jgd := by kernel_rfl
noncomputable def JaB : Array Oper := J18 Tryd.f51 16
def JgD : List (Bool × Bool × List Operand) := [(true, true, []), (false, true, []), (false, true, []), (false, true, []), (false, true, []), (false, true, []), (false, true, [.tmp 80]), (false, true, [.tmp 80]), (false, true, [.tmp 80]), (false, true, [.tmp 80]), (false, true, [.tmp 80, .tmp 84]), (false, true, [.tmp 80, .tmp 84]), (false, true, [.tmp 80, .tmp 84]), (false, true, [.tmp 80, .tmp 84]), (false, true, [.tmp 80, .tmp 84]), (false, true, [.tmp 80]), (false, true, [.tmp 80]), (false, false, []), (false, false, []), (false, false, []), (false, false, []), (false, false, [])]
theorem Jbk : J1E JaB = JgD := by kernel_rfl
noncomputable def JaZ : Array Oper := J18 Tryd.f51 19
def JgB : List (Bool × Bool × List Operand) := [(true, true, []), (false, true, []), (false, true, []), (false, true, []), (false, true, []), (false, true, []), (false, true, [.tmp 114]), (false, true, [.tmp 114]), (false, true, [.tmp 114]), (false, true, [.tmp 114]), (false, true, [.tmp 114]), (false, false, []), (false, false, []), (false, false, []), (false, false, []), (false, false, [])]
theorem JbL : J1E JaZ = JgB := by kernel_rfl
noncomputable def JaA : Array Oper := J18 Tryd.f51 21
def Jgs : List (Bool × Bool × List Operand) := [(true, true, []), (false, true, []), (false, true, []), (false, true, []), (false, true, []), (false, true, []), (false, true, [.tmp 131]), (false, true, [.tmp 131]), (false, true, [.tmp 131]), (false, true, [.tmp 131]), (false, true, [.tmp 131]), (false, false, []), (false, false, []), (false, false, []), (false, false, []), (false, false, [])]
theorem Jc5 : J1E JaA = Jgs := by kernel_rfl
theorem Je3 {h : SHeap} {id : Nat} {a b c x y z : Value} {ty : TypeId} {g : Bool} (hg : h.get id = .row [x, y, z] ty g false) (hf : h.floor ≤ id) (ho : [a, b, c].all one = true) : J0K Tryd.prog h 116 (.pointer (some ⟨id, 0, none⟩)) (.agg #[a, b, c]) = some (h.put id (.row [a, b, c] ty g false)) := by
 have hl : Go.Sx.lay [x, y, z] 0 [a, b, c] = [a, b, c] := rfl
 have hc : (Value.agg #[a, b, c]).cells = #[a, b, c] := rfl
 have hsz : (some 3 : Option Nat) = some (#[a, b, c] : Array Value).size := rfl
 simp only [J0K, hc, Jhm, J1q, hg]
 rw [if_pos hsz, if_pos (by simp only [List.length_cons, List.length_nil, ho]; simp [hf])]
 rfl
theorem JfL {b t : Nat} (ht : t ≤ b) {T : Tr} {d : Nat} {v : Value} (hd : b < d) : (T.put (some d) v).get t = T.get t := J03 (b := b + 1) hd (by omega)
theorem JcC {T : Tr} {v : Value} : T.put none v = T := rfl
section
variable {call : J0r} {N : Nat} {h : SHeap} {lo m k c e r n : Nat} {nm : ByteArray} {E : List Int} {tag : Nat → Nat} {vq vv vt vu vo : Value} {es : List (Value × Value)} {s : StN}
theorem Ji7 (hsn : J1G call) {T : Tr} {at_ : Nat} {x : RowN} {K : Kont} (hp : MkP h lo m k c e r n nm E tag vq vv vt vu vo es s) (hx : s.rows[at_]? = some x)
  (t0 : T.get 0 = .pointer (some ⟨m, 0, none⟩)) (t7 : T.get 7 = .pointer (some ⟨r, at_ * 5, none⟩))
  (hk1 : ∀ T' H, (J30 s.things x.name).isSome = true → T'.get 6 = iv 31 → (∀ i, i < h.next → H.get i = h.get i) → h.next ≤ H.next → H.floor = h.floor → K.ap Tryd.prog call N .ret ⟨T', H⟩)
  (hk2 : ∀ T' H, J30 s.things x.name = none → (∀ t, t ≤ 8 → T'.get t = T.get t) → (∀ i, i < h.next → H.get i = h.get i) → h.next ≤ H.next → H.floor = h.floor → WK Tryd.prog call N D8 ⟨T', H⟩ K) : WK Tryd.prog call N D5 ⟨T, h⟩ K := by
 show WK _ _ _ (.seq (.seq (.region _ _ true) _) D8) _ _
 rw [J4p, J4p]
 have c8 := hp.c8
 obtain ⟨hlt, l0, l1, l2, l3, l4, lr⟩ := hp.row hx
 have hlook := J7x (x := x.name) hp.known
 have hm := hp.lm.2
 have hkn := hp.lk.2
 have hr := hp.pol.lr.2
 have hflo : h.floor ≤ h.next := by have := hp.fl; have := hp.lm.1; omega
 have n1 : (some m != some h.next) = true := by simp; omega
 have n2 : (some r != some h.next) = true := by simp; omega
 have n3 : (some k != some h.next) = true := by simp; omega
 have hnew : (h.push (.row [iv 0, iv 0, iv 0] 116 false false)).get h.next = .row [iv 0, iv 0, iv 0] 116 false false := J0h
 have hst := fun a b d => Je3 (a := iv a) (b := iv b) (c := iv d) hnew (by exact hflo) rfl
 have hold : ∀ o i, i < h.next → ((h.push (.row [iv 0, iv 0, iv 0] 116 false false)).put h.next o).get i = h.get i := fun o i hi => by rw [J05 (by show h.next < h.next + 1; omega) (by omega), J06 hi]
 have hfl0 : flat (.agg #[iv 0, iv 0, iv 0]) = true := rfl
 have hcl0 : (Value.agg #[iv 0, iv 0, iv 0]).cells.toList = [iv 0, iv 0, iv 0] := rfl
 have i1 : idOf (.pointer (some ⟨m, 8, none⟩)) = some m := rfl
 have i2 : idOf (.pointer (some ⟨r, at_ * 5 + 1, none⟩)) = some r := rfl
 have i3 : idOf (.map (some k)) = some k := rfl
 have i4 : idOf (.pointer (some ⟨h.next, 0, none⟩)) = some h.next := rfl
 refine WK.flags (ops := JdY) Jd3 ?_
 refine WKF.begin ?_
 have FF := And.intro @t0 (And.intro @t7 (And.intro @J0Z (And.intro @J07 (And.intro @J1k (And.intro @J0d (And.intro @c8 @l1))))))
 refine wst hsn 0 (some 27) (.move (.tmp 0)) none ?_
 simp only [rgC, seval, J04, J02, WKFC, FF]
 refine wst hsn 1 (some 28) (.nilCheck (.tmp 27)) none ?_
 simp only [rgC, seval, J04, J02, WKFC, FF]
 refine wst hsn 2 (some 29) (.fieldAddr 83 (.tmp 28) 1) none ?_
 simp only [rgC, seval, J04, J02, WKFC, Nat.zero_add, FF]
 refine wst hsn 3 (some 30) (.load 80 (.tmp 29)) none ?_
 simp only [rgC, seval, J04, J02, WKFC, rgL, FF]
 refine wst hsn 4 (some 31) (.move (.tmp 7)) none ?_
 simp only [rgC, seval, J04, J02, WKFC, FF]
 refine wst hsn 5 (some 32) (.nilCheck (.tmp 31)) none ?_
 simp only [rgC, seval, J04, J02, WKFC, FF]
 refine wst hsn 6 (some 33) (.fieldAddr 46 (.tmp 32) 1) none ?_
 simp only [rgC, seval, J04, J02, WKFC, Nat.zero_add, FF]
 refine wst hsn 7 (some 34) (.load 9 (.tmp 33)) none ?_
 simp only [rgC, seval, J04, J02, WKFC, rgL, FF]
 clear FF
 cases hf : J30 s.things x.name with
 | some t =>
  rw [hf] at hlook
  have FF := And.intro @hlook (And.intro @J1j (And.intro @hfl0 (And.intro @hcl0 (And.intro @hst (And.intro @i1 (And.intro @i2 (And.intro @i3 (And.intro @i4 (And.intro @n1 (And.intro @n2 @n3))))))))))
  refine wst hsn 8 (some 35) (.lookup 80 (.tmp 30) (.tmp 34) true) none ?_
  simp only [rgC, seval, J04, J02, WKFC, rgL, List.getElem?_toArray, List.getElem?_cons_succ, List.getElem?_cons_zero, J17, List.all_cons, List.all_nil, Bool.and_self, FF]
  refine wst hsn 9 (some 26) (.move (.tmp 35)) none ?_
  simp only [rgC, seval, J04, J02, WKFC, List.getElem?_toArray, List.getElem?_cons_succ, List.getElem?_cons_zero, J17, List.all_cons, List.all_nil, Bool.and_self, FF]
  refine wst hsn 10 (some 36) (.extract (.tmp 26) 0) none ?_
  simp only [rgC, seval, J04, J02, WKFC, List.getElem?_toArray, List.getElem?_cons_succ, List.getElem?_cons_zero, J17, List.all_cons, List.all_nil, Bool.and_self, FF]
  refine wst hsn 11 (some 37) (.extract (.tmp 26) 1) none ?_
  simp only [rgC, seval, J04, J02, WKFC, List.getElem?_toArray, List.getElem?_cons_succ, List.getElem?_cons_zero, J17, List.all_cons, List.all_nil, Bool.and_self, FF]
  refine wst hsn 12 (some 9) (.alloc 116) none ?_
  simp only [rgC, seval, J04, J02, WKFC, rgA, List.getElem?_toArray, List.getElem?_cons_succ, List.getElem?_cons_zero, J17, List.all_cons, List.all_nil, Bool.and_self, FF]
  refine wst hsn 13 (none) (.store 116 (.tmp 9) (.tmp 36)) none ?_
  simp only [rgC, seval, J04, J02, WKFC, J17, rgS, List.getElem?_toArray, List.getElem?_cons_succ, List.getElem?_cons_zero, J17, List.all_cons, List.all_nil, Bool.and_self, FF]
  refine wst hsn 14 (some 10) (.assign (.tmp 37)) none ?_
  simp only [rgC, seval, J04, J02, WKFC, List.getElem?_toArray, List.getElem?_cons_succ, List.getElem?_cons_zero, J17, List.all_cons, List.all_nil, Bool.and_self, FF]
  refine WKF.done (i := 15) (by kernel_rfl) ?_
  clear FF
  simp only [evC, seval, ↓evP, rpC]
  exact hk1 _ _ (by rw [hf]; rfl) (by simp only [Tr.get_put, if_true]) (hold _) (by show h.next ≤ h.next + 1; omega) rfl
 | none =>
  rw [hf] at hlook
  have FF := And.intro @hlook (And.intro @J1j (And.intro @hfl0 (And.intro @hcl0 (And.intro @hst (And.intro @i1 (And.intro @i2 (And.intro @i3 (And.intro @i4 (And.intro @n1 (And.intro @n2 @n3))))))))))
  refine wst hsn 8 (some 35) (.lookup 80 (.tmp 30) (.tmp 34) true) none ?_
  simp only [rgC, seval, J04, J02, WKFC, rgL, List.getElem?_toArray, List.getElem?_cons_succ, List.getElem?_cons_zero, J17, List.all_cons, List.all_nil, Bool.and_self, FF]
  refine wst hsn 9 (some 26) (.move (.tmp 35)) none ?_
  simp only [rgC, seval, J04, J02, WKFC, List.getElem?_toArray, List.getElem?_cons_succ, List.getElem?_cons_zero, J17, List.all_cons, List.all_nil, Bool.and_self, FF]
  refine wst hsn 10 (some 36) (.extract (.tmp 26) 0) none ?_
  simp only [rgC, seval, J04, J02, WKFC, List.getElem?_toArray, List.getElem?_cons_succ, List.getElem?_cons_zero, J17, List.all_cons, List.all_nil, Bool.and_self, FF]
  refine wst hsn 11 (some 37) (.extract (.tmp 26) 1) none ?_
  simp only [rgC, seval, J04, J02, WKFC, List.getElem?_toArray, List.getElem?_cons_succ, List.getElem?_cons_zero, J17, List.all_cons, List.all_nil, Bool.and_self, FF]
  refine wst hsn 12 (some 9) (.alloc 116) none ?_
  simp only [rgC, seval, J04, J02, WKFC, rgA, List.getElem?_toArray, List.getElem?_cons_succ, List.getElem?_cons_zero, J17, List.all_cons, List.all_nil, Bool.and_self, FF]
  refine wst hsn 13 (none) (.store 116 (.tmp 9) (.tmp 36)) none ?_
  simp only [rgC, seval, J04, J02, WKFC, J17, rgS, List.getElem?_toArray, List.getElem?_cons_succ, List.getElem?_cons_zero, J17, List.all_cons, List.all_nil, Bool.and_self, FF]
  refine wst hsn 14 (some 10) (.assign (.tmp 37)) none ?_
  simp only [rgC, seval, J04, J02, WKFC, List.getElem?_toArray, List.getElem?_cons_succ, List.getElem?_cons_zero, J17, List.all_cons, List.all_nil, Bool.and_self, FF]
  refine WKF.done (i := 15) (by kernel_rfl) ?_
  clear FF
  simp only [evC, seval, ↓evP, rpC]
  refine hk2 _ _ hf (fun t ht => ?_) (hold _) (by show h.next ≤ h.next + 1; omega) rfl
  simp only [JfL ht, JcC, Nat.reduceLT]
noncomputable def D14 : Code := rt D13
theorem JhW (hsn : J1G call) {T : Tr} {at_ : Nat} {x : RowN} {K : Kont} {kd end_ : Int} (hp : MkP h lo m k c e r n nm E tag vq vv vt vu vo es s) (hx : s.rows[at_]? = some x) (hm : Many es s) (h1 : 1 ≤ kd) (h4 : kd ≤ 4) (hcn : cntN s kd < 1000)
  (h80 : ∀ h', call 80 [iv kd] h' = some (iv (J3g kd), h')) (hf : J30 s.things x.name = none)
  (t0 : T.get 0 = .pointer (some ⟨m, 0, none⟩)) (t2 : T.get 2 = iv end_) (t7 : T.get 7 = .pointer (some ⟨r, at_ * 5, none⟩)) (t8 : T.get 8 = iv kd)
  (hk1 : ∀ T', (cntN s kd : Int) = J3g kd → T'.get 6 = iv 3 → K.ap Tryd.prog call N .ret ⟨T', h⟩)
  (hk2 : ∀ T' H, (cntN s kd : Int) ≠ J3g kd → (∀ t, t ≤ 8 → T'.get t = T.get t) → MkP H lo m k c e r n nm E tag vq vv vt vu vo (J2h (iv kd) (iv ((cntN s kd : Int) + 1)) es) { s with rows := setN s.rows at_ (cntN s kd), things := s.things ++ [⟨x.name, kd, (cntN s kd : Int), end_⟩] } →
   (∀ i, i < lo ∨ (i < h.next ∧ 11 ≤ tag i) → H.get i = h.get i) → H.next = h.next → H.floor = h.floor → WK Tryd.prog call N D14 ⟨T', H⟩ K) : WK Tryd.prog call N D8 ⟨T, h⟩ K := by
 show WK _ _ _ (.seq _ (.seq _ (.seq _ D12))) _ _
 have c9 := hp.c9
 have hlook := JdK hp.many hm h1 h4
 have w1 : IntKind.i64.wrap ((cntN s kd : Int) + 1) = (cntN s kd : Int) + 1 := J0s (by omega) (by omega)
 have hput := Jfr (v := iv ((cntN s kd : Int) + 1)) hp.many hm h1 h4 (by have := hp.fl; have := hp.lc.1; omega)
 cases d1 : ((cntN s kd : Int) == J3g kd) with
 | true =>
  simp only [evC, seval, ↓evP, rpC, t0, t7, t8, JaQ, Jdh, c9, hlook, h80, d1]
  exact hk1 _ (by simpa using d1) (by simp only [Tr.get_put, if_true])
 | false =>
  simp only [evC, seval, ↓evP, rpC, t0, t7, t8, JaQ, Jdh, c9, hlook, h80, d1, w1, hput]
  have hp1 := hp.putC (J2h (iv kd) (iv ((cntN s kd : Int) + 1)) es)
  have hlo1 : ∀ i, i < lo ∨ (i < h.next ∧ 11 ≤ tag i) → (h.put c (.map (J2h (iv kd) (iv ((cntN s kd : Int) + 1)) es))).get i = h.get i := fun i hi => J05 hp.lc.2 (J8l hp.lc.1 (by rw [hp.tc]; decide) hi)
  have hnx1 : (h.put c (.map (J2h (iv kd) (iv ((cntN s kd : Int) + 1)) es))).next = h.next := rfl
  have hfl1 : (h.put c (.map (J2h (iv kd) (iv ((cntN s kd : Int) + 1)) es))).floor = h.floor := rfl
  generalize h.put c (.map (J2h (iv kd) (iv ((cntN s kd : Int) + 1)) es)) = H1 at *
  show WK _ _ _ (.seq (.region _ _ true) (.seq _ D14)) _ _
  rw [J4p]
  have b8 := hp1.c8
  obtain ⟨hlt, l0, l1, l2, l3, l4, lr⟩ := hp1.row hx
  have hpk := Jdy (a := kd) (b := (cntN s kd : Int)) (c := end_) hp1.known hf (by have := hp1.fl; have := hp1.lk.1; omega)
  refine WK.flags (ops := JaN) JbS ?_
  refine WKF.begin ?_
  have FF := And.intro @t0 (And.intro @t2 (And.intro @t7 (And.intro @t8 (And.intro @J0Z (And.intro @J07 (And.intro @J1k (And.intro @J0d (And.intro @b8 (And.intro @l1 (And.intro @J3i (And.intro @J3R @hpk)))))))))))
  refine wst hsn 0 (some 56) (.move (.tmp 0)) none ?_
  simp only [rgC, seval, J04, J02, WKFC, FF]
  refine wst hsn 1 (some 57) (.nilCheck (.tmp 56)) none ?_
  simp only [rgC, seval, J04, J02, WKFC, FF]
  refine wst hsn 2 (some 58) (.fieldAddr 83 (.tmp 57) 1) none ?_
  simp only [rgC, seval, J04, J02, WKFC, Nat.zero_add, FF]
  refine wst hsn 3 (some 59) (.load 80 (.tmp 58)) none ?_
  simp only [rgC, seval, J04, J02, WKFC, rgL, FF]
  refine wst hsn 4 (some 60) (.move (.tmp 7)) none ?_
  simp only [rgC, seval, J04, J02, WKFC, FF]
  refine wst hsn 5 (some 61) (.nilCheck (.tmp 60)) none ?_
  simp only [rgC, seval, J04, J02, WKFC, FF]
  refine wst hsn 6 (some 62) (.fieldAddr 46 (.tmp 61) 1) none ?_
  simp only [rgC, seval, J04, J02, WKFC, Nat.zero_add, FF]
  refine wst hsn 7 (some 63) (.load 9 (.tmp 62)) none ?_
  simp only [rgC, seval, J04, J02, WKFC, rgL, FF]
  refine wst hsn 8 (some 64) (.move (.tmp 8)) none ?_
  simp only [rgC, seval, J04, J02, WKFC, FF]
  refine wst hsn 9 (some 65) (.move (.tmp 11)) none ?_
  simp only [rgC, seval, J04, J02, WKFC, FF]
  refine wst hsn 10 (some 66) (.build 114 #[(0, .tmp 64), (1, .tmp 65)]) none ?_
  simp only [rgC, seval, J04, J02, WKFC, List.map_cons, List.map_nil, FF]
  refine wst hsn 11 (some 67) (.move (.tmp 2)) none ?_
  simp only [rgC, seval, J04, J02, WKFC, FF]
  refine wst hsn 12 (some 68) (.build 116 #[(0, .tmp 66), (1, .tmp 67)]) none ?_
  simp only [rgC, seval, J04, J02, WKFC, List.map_cons, List.map_nil, FF]
  refine wst hsn 13 (none) (.mapUpdate 80 (.tmp 59) (.tmp 63) (.tmp 68)) none ?_
  simp only [rgC, seval, J04, J02, WKFC, J17, rgS, FF]
  refine WKF.done (i := 14) (by kernel_rfl) ?_
  clear FF
  have hp2 := hp1.putK (s.things ++ [⟨x.name, kd, (cntN s kd : Int), end_⟩])
  have hlo2 : ∀ i, i < lo ∨ (i < h.next ∧ 11 ≤ tag i) → (H1.put k (.map ((s.things ++ [(⟨x.name, kd, (cntN s kd : Int), end_⟩ : ThN)]).map entT))).get i = h.get i := fun i hi => by rw [J05 hp1.lk.2 (J8l hp1.lk.1 (by rw [hp1.tk]; decide) hi)]; exact hlo1 i hi
  have hnx2 : (H1.put k (.map ((s.things ++ [(⟨x.name, kd, (cntN s kd : Int), end_⟩ : ThN)]).map entT))).next = h.next := hnx1
  have hfl2 : (H1.put k (.map ((s.things ++ [(⟨x.name, kd, (cntN s kd : Int), end_⟩ : ThN)]).map entT))).floor = h.floor := hfl1
  generalize H1.put k (.map ((s.things ++ [(⟨x.name, kd, (cntN s kd : Int), end_⟩ : ThN)]).map entT)) = H2 at *
  have hrl := J0N s.rows
  have hlen := hp.pol.len
  have hst := stc (off := at_ * 5 + 3) sz3 (v := iv (cntN s kd : Int)) rfl rfl hp2.pol.rows (by rw [hrl]; omega) (by have := hp2.fl; have := hp2.pol.lr.1; omega)
  rw [J3N hx] at hst
  have hp3 := hp2.putR (l := setN s.rows at_ (cntN s kd : Int)) J4N
  simp only [evC, seval, ↓evP, rpC, t7, hst]
  refine hk2 _ _ (by simpa using d1) (fun t ht => ?_) hp3 (fun i hi => ?_) hnx2 hfl2
  ·simp only [JfL ht, JcC, Nat.reduceLT]
  ·rw [J05 hp2.pol.lr.2 (J8l hp2.pol.lr.1 (by rw [hp2.pol.tr]; decide) hi)]
   exact hlo2 i hi
def appS (kd : Int) (at_ : Nat) (x : RowN) (s : StN) : StN :=
 { s with
   queues := if kd = 1 then s.queues ++ [(x.name, x.kind == 3)] else s.queues
   vars := if kd = 2 then s.vars ++ [x.name] else s.vars
   tags := if kd = 3 then s.tags ++ [x.name] else s.tags
   rules := if kd = 4 then s.rules ++ [(at_ : Int) + 1] else s.rules
   on := if kd = 1 then s.on ++ [-1] else s.on }
set_option maxHeartbeats 4000000 in
theorem Jfe (hsn : J1G call) {T : Tr} {at_ : Nat} {x : RowN} {K : Kont} {kd : Int} (hp : MkP h lo m k c e r n nm E tag vq vv vt vu vo es s) (hx : s.rows[at_]? = some x) (h1 : 1 ≤ kd) (h4 : kd ≤ 4)
  (hb : s.queues.length < 1000 ∧ s.vars.length < 1000 ∧ s.tags.length < 1000 ∧ s.rules.length < 1000 ∧ s.on.length < 1000) (hn : n < 1099511627776)
  (t0 : T.get 0 = .pointer (some ⟨m, 0, none⟩)) (t1 : T.get 1 = iv at_) (t7 : T.get 7 = .pointer (some ⟨r, at_ * 5, none⟩)) (t8 : T.get 8 = iv kd)
  (hk : ∀ T' H tag' vq' vv' vt' vu' vo', T'.get 6 = iv 0 → MkP H lo m k c e r n nm E tag' vq' vv' vt' vu' vo' es (appS kd at_ x s) → (∀ i, i < h.next → tag' i = tag i) → (∀ i, i < lo ∨ (i < h.next ∧ 11 ≤ tag i) → H.get i = h.get i) → h.next ≤ H.next → H.floor = h.floor → K.ap Tryd.prog call N .ret ⟨T', H⟩) : WK Tryd.prog call N D14 ⟨T, h⟩ K := by
 show WK _ _ _ (.seq (.seq _ (.block _ _)) (.seq _ _)) _ _
 have hm := hp.lm.2
 have hlm := hp.lm.1
 have hflm : h.floor ≤ m := by have := hp.fl; omega
 obtain ⟨hlt, l0, l1, l2, l3, l4, lr⟩ := hp.row hx
 have hk4 : kd = 1 ∨ kd = 2 ∨ kd = 3 ∨ kd = 4 := by omega
 have nl : ∀ (o o' : SObj) i, i < lo ∨ (i < h.next ∧ 11 ≤ tag i) → ∀ hh : SHeap, (∀ i, i < h.next → i < lo ∨ 11 ≤ tag i → hh.get i = h.get i) → hh.next = h.next + 2 → (hh.put m o).get i = h.get i := fun o o' i hi hh h1 h2 => by rw [J05 (by omega) (J8l hlm (by rw [hp.tm]; decide) hi), h1 i (by omega) (by omega)]
 have tg : ∀ j i, i < h.next → (fun i => if i = h.next + 1 then j else tag i) i = tag i := fun j i hi => if_neg (by omega)
 rcases hk4 with rfl | rfl | rfl | rfl
 ·obtain ⟨v', h1', a1, a2, a3, a4, a5, a6, a7, hp2⟩ := hp.appQ (x.name, x.kind == 3) (by omega)
  have c2 := hp.c2
  have hfx : h1'.fl h.floor = h1' := by rw [← a5]; exact J6L h1'
  have hst : J0K Tryd.prog h1' 26 (.pointer (some ⟨m, 2, none⟩)) v' = _ := stc sz26 a4 a3 (a2.trans hp.cell) (by simp only [List.length_cons, List.length_nil]; omega) (by rw [a5]; exact hflm)
  have lo2 := nl (.row [.string nm, .slice (some ⟨r, 0, none⟩) n unk, v', vv, vt, vu, vo, iv s.miss, .map (some k), .map (some c)] 83 false false) .dead
  simp only [List.set_cons_succ, List.set_cons_zero] at hst
  simp only [evC, seval, ↓evP, rpC, t8, Int.reduceBEq]
  show WK _ _ _ (.region _ _ true) _ _
  refine WK.flags (ops := JaB) Jbk ?_
  refine WKF.begin ?_
  have FF := And.intro @t0 (And.intro @t7 (And.intro @J0g (And.intro @J0B (And.intro @J0t (And.intro @J07 (And.intro @J0S (And.intro @J0m (And.intro @J0d (And.intro @c2 (And.intro @l0 (And.intro @l1 (And.intro @J2q (And.intro @bs26 (And.intro @a1 (And.intro @hfx (And.intro @hst (And.intro @J0a @J0i)))))))))))))))))
  refine wst hsn 0 (some 76) (.move (.tmp 0)) none ?_
  simp only [rgC, seval, J04, J02, WKFC, FF]
  refine wst hsn 1 (some 77) (.move (.tmp 0)) none ?_
  simp only [rgC, seval, J04, J02, WKFC, FF]
  refine wst hsn 2 (some 78) (.nilCheck (.tmp 77)) none ?_
  simp only [rgC, seval, J04, J02, WKFC, FF]
  refine wst hsn 3 (some 79) (.fieldAddr 83 (.tmp 78) 0) none ?_
  simp only [rgC, seval, J04, J02, WKFC, Nat.zero_add, FF]
  refine wst hsn 4 (some 80) (.fieldAddr 30 (.tmp 79) 2) none ?_
  simp only [rgC, seval, J04, J02, WKFC, Nat.zero_add, FF]
  refine wst hsn 5 (some 81) (.load 26 (.tmp 80)) none ?_
  simp only [rgC, seval, J04, J02, WKFC, rgL, FF]
  refine wst hsn 6 (some 82) (.move (.tmp 7)) none ?_
  simp only [rgC, seval, J04, J02, WKFC, FF]
  refine wst hsn 7 (some 83) (.nilCheck (.tmp 82)) none ?_
  simp only [rgC, seval, J04, J02, WKFC, FF]
  refine wst hsn 8 (some 84) (.fieldAddr 46 (.tmp 83) 1) none ?_
  simp only [rgC, seval, J04, J02, WKFC, Nat.zero_add, FF]
  refine wst hsn 9 (some 85) (.load 9 (.tmp 84)) none ?_
  simp only [rgC, seval, J04, J02, WKFC, rgL, FF]
  refine wst hsn 10 (some 86) (.move (.tmp 7)) none ?_
  simp only [rgC, seval, J04, J02, WKFC, FF]
  refine wst hsn 11 (some 87) (.nilCheck (.tmp 86)) none ?_
  simp only [rgC, seval, J04, J02, WKFC, FF]
  refine wst hsn 12 (some 88) (.fieldAddr 46 (.tmp 87) 0) none ?_
  simp only [rgC, seval, J04, J02, WKFC, Nat.zero_add, FF]
  refine wst hsn 13 (some 89) (.load 3 (.tmp 88)) none ?_
  simp only [rgC, seval, J04, J02, WKFC, rgL, FF]
  refine wst hsn 14 (some 90) (.binOp .eql 3 (.tmp 89) (.const (Value.int IntKind.i64 3)) 3) none ?_
  simp only [rgC, seval, J04, J02, WKFC, rgB, FF]
  refine wst hsn 15 (some 91) (.build 57 #[(0, .tmp 85), (1, .tmp 90)]) none ?_
  simp only [rgC, seval, J04, J02, WKFC, List.map_cons, List.map_nil, FF]
  refine wst hsn 16 (some 92) (.buildSlice 26 1 #[(0, .tmp 91)]) none ?_
  simp only [rgC, seval, J04, J02, WKFC, List.map_cons, List.map_nil, FF]
  refine wst hsn 17 (some 93) (.call { callee := .builtin .append, args := #[.tmp 81, .tmp 92], argTypes := #[26, 26] }) none ?_
  simp only [rgC, seval, J04, J02, WKFC, rgK, FF]
  refine wst hsn 18 (some 94) (.nilCheck (.tmp 76)) none ?_
  simp only [rgC, seval, J04, J02, WKFC, FF]
  refine wst hsn 19 (some 95) (.fieldAddr 83 (.tmp 94) 0) none ?_
  simp only [rgC, seval, J04, J02, WKFC, Nat.zero_add, FF]
  refine wst hsn 20 (some 96) (.fieldAddr 30 (.tmp 95) 2) none ?_
  simp only [rgC, seval, J04, J02, WKFC, Nat.zero_add, FF]
  refine wst hsn 21 (none) (.store 26 (.tmp 96) (.tmp 93)) none ?_
  simp only [rgC, seval, J04, J02, WKFC, J17, rgS, FF]
  refine WKF.done (i := 22) (by kernel_rfl) ?_
  clear FF
  have lo3 := fun i hi => lo2 i hi h1' a7 a6
  have hfl3 : (h1'.put m (.row [.string nm, .slice (some ⟨r, 0, none⟩) n unk, v', vv, vt, vu, vo, iv s.miss, .map (some k), .map (some c)] 83 false false)).floor = h.floor := a5
  have hnx3 : (h1'.put m (.row [.string nm, .slice (some ⟨r, 0, none⟩) n unk, v', vv, vt, vu, vo, iv s.miss, .map (some k), .map (some c)] 83 false false)).next = h.next + 2 := a6
  generalize h1'.put m (.row [.string nm, .slice (some ⟨r, 0, none⟩) n unk, v', vv, vt, vu, vo, iv s.miss, .map (some k), .map (some c)] 83 false false) = H2 at *
  obtain ⟨v2, h2', b1, b2, b3, b4, b5, b6, b7, hp3⟩ := hp2.appO (-1) (by simp only; omega)
  have d6 := hp2.c6
  have hst2 : J0K Tryd.prog h2' 28 (.pointer (some ⟨m, 6, none⟩)) v2 = _ := stc sz28 b4 b3 (b2.trans hp2.cell) (by simp only [List.length_cons, List.length_nil]; omega) (by rw [b5, hfl3]; exact hflm)
  simp only [List.set_cons_succ, List.set_cons_zero] at hst2
  simp only [evC, seval, ↓evP, rpC, t0, J0g, J1T, J0n, d6, bs28, b1, hst2]
  refine hk _ _ _ _ _ _ _ _ (by simp only [Tr.get_put, if_true]) hp3 (fun i hi => ?_) (fun i hi => ?_) ?_ (b5.trans hfl3)
  ·show (if i = H2.next + 1 then 6 else if i = h.next + 1 then 2 else tag i) = tag i
   rw [if_neg (by omega), if_neg (by omega)]
  ·rw [J05 (by omega) (J8l hlm (by rw [hp.tm]; decide) hi), b7 i (by omega) (by show i < lo ∨ 11 ≤ (if i = h.next + 1 then 2 else tag i); rw [if_neg (by omega)]; omega), lo3 i hi]
  ·show h.next ≤ h2'.next; omega
 ·obtain ⟨v', h1', a1, a2, a3, a4, a5, a6, a7, hp2⟩ := hp.appV x.name (by omega)
  have c3 := hp.c3
  have hfx : h1'.fl h.floor = h1' := by rw [← a5]; exact J6L h1'
  have hst : J0K Tryd.prog h1' 27 (.pointer (some ⟨m, 3, none⟩)) v' = _ := stc sz27 a4 a3 (a2.trans hp.cell) (by simp only [List.length_cons, List.length_nil]; omega) (by rw [a5]; exact hflm)
  simp only [List.set_cons_succ, List.set_cons_zero] at hst
  simp only [evC, seval, ↓evP, rpC, t8, Int.reduceBEq]
  show WK _ _ _ (.region _ _ true) _ _
  refine WK.flags (ops := JaZ) JbL ?_
  refine WKF.begin ?_
  have FF := And.intro @t0 (And.intro @t7 (And.intro @J0g (And.intro @J1A (And.intro @J07 (And.intro @J0Y (And.intro @J0d (And.intro @c3 (And.intro @l1 (And.intro @bs27 (And.intro @a1 (And.intro @hfx (And.intro @hst (And.intro @J0a @J0i)))))))))))))
  refine wst hsn 0 (some 110) (.move (.tmp 0)) none ?_
  simp only [rgC, seval, J04, J02, WKFC, FF]
  refine wst hsn 1 (some 111) (.move (.tmp 0)) none ?_
  simp only [rgC, seval, J04, J02, WKFC, FF]
  refine wst hsn 2 (some 112) (.nilCheck (.tmp 111)) none ?_
  simp only [rgC, seval, J04, J02, WKFC, FF]
  refine wst hsn 3 (some 113) (.fieldAddr 83 (.tmp 112) 0) none ?_
  simp only [rgC, seval, J04, J02, WKFC, Nat.zero_add, FF]
  refine wst hsn 4 (some 114) (.fieldAddr 30 (.tmp 113) 3) none ?_
  simp only [rgC, seval, J04, J02, WKFC, Nat.zero_add, FF]
  refine wst hsn 5 (some 115) (.load 27 (.tmp 114)) none ?_
  simp only [rgC, seval, J04, J02, WKFC, rgL, FF]
  refine wst hsn 6 (some 116) (.move (.tmp 7)) none ?_
  simp only [rgC, seval, J04, J02, WKFC, FF]
  refine wst hsn 7 (some 117) (.nilCheck (.tmp 116)) none ?_
  simp only [rgC, seval, J04, J02, WKFC, FF]
  refine wst hsn 8 (some 118) (.fieldAddr 46 (.tmp 117) 1) none ?_
  simp only [rgC, seval, J04, J02, WKFC, Nat.zero_add, FF]
  refine wst hsn 9 (some 119) (.load 9 (.tmp 118)) none ?_
  simp only [rgC, seval, J04, J02, WKFC, rgL, FF]
  refine wst hsn 10 (some 120) (.buildSlice 27 1 #[(0, .tmp 119)]) none ?_
  simp only [rgC, seval, J04, J02, WKFC, List.map_cons, List.map_nil, FF]
  refine wst hsn 11 (some 121) (.call { callee := .builtin .append, args := #[.tmp 115, .tmp 120], argTypes := #[27, 27] }) none ?_
  simp only [rgC, seval, J04, J02, WKFC, rgK, FF]
  refine wst hsn 12 (some 122) (.nilCheck (.tmp 110)) none ?_
  simp only [rgC, seval, J04, J02, WKFC, FF]
  refine wst hsn 13 (some 123) (.fieldAddr 83 (.tmp 122) 0) none ?_
  simp only [rgC, seval, J04, J02, WKFC, Nat.zero_add, FF]
  refine wst hsn 14 (some 124) (.fieldAddr 30 (.tmp 123) 3) none ?_
  simp only [rgC, seval, J04, J02, WKFC, Nat.zero_add, FF]
  refine wst hsn 15 (none) (.store 27 (.tmp 124) (.tmp 121)) none ?_
  simp only [rgC, seval, J04, J02, WKFC, J17, rgS, FF]
  refine WKF.done (i := 16) (by kernel_rfl) ?_
  clear FF
  simp only [evC, seval, ↓evP, rpC]
  refine hk _ _ _ _ _ _ _ _ (by simp only [Tr.get_put, if_true]) hp2 (tg _) (fun i hi => nl _ .dead i hi h1' a7 a6) ?_ a5
  show h.next ≤ h1'.next; omega
 ·obtain ⟨v', h1', a1, a2, a3, a4, a5, a6, a7, hp2⟩ := hp.appT x.name (by omega)
  have c4 := hp.c4
  have hfx : h1'.fl h.floor = h1' := by rw [← a5]; exact J6L h1'
  have hst : J0K Tryd.prog h1' 27 (.pointer (some ⟨m, 4, none⟩)) v' = _ := stc sz27 a4 a3 (a2.trans hp.cell) (by simp only [List.length_cons, List.length_nil]; omega) (by rw [a5]; exact hflm)
  simp only [List.set_cons_succ, List.set_cons_zero] at hst
  simp only [evC, seval, ↓evP, rpC, t8, Int.reduceBEq]
  show WK _ _ _ (.region _ _ true) _ _
  refine WK.flags (ops := JaA) Jc5 ?_
  refine WKF.begin ?_
  have FF := And.intro @t0 (And.intro @t7 (And.intro @J0g (And.intro @J1B (And.intro @J07 (And.intro @J0Y (And.intro @J0d (And.intro @c4 (And.intro @l1 (And.intro @bs27 (And.intro @a1 (And.intro @hfx (And.intro @hst (And.intro @J0a @J0i)))))))))))))
  refine wst hsn 0 (some 127) (.move (.tmp 0)) none ?_
  simp only [rgC, seval, J04, J02, WKFC, FF]
  refine wst hsn 1 (some 128) (.move (.tmp 0)) none ?_
  simp only [rgC, seval, J04, J02, WKFC, FF]
  refine wst hsn 2 (some 129) (.nilCheck (.tmp 128)) none ?_
  simp only [rgC, seval, J04, J02, WKFC, FF]
  refine wst hsn 3 (some 130) (.fieldAddr 83 (.tmp 129) 0) none ?_
  simp only [rgC, seval, J04, J02, WKFC, Nat.zero_add, FF]
  refine wst hsn 4 (some 131) (.fieldAddr 30 (.tmp 130) 4) none ?_
  simp only [rgC, seval, J04, J02, WKFC, Nat.zero_add, FF]
  refine wst hsn 5 (some 132) (.load 27 (.tmp 131)) none ?_
  simp only [rgC, seval, J04, J02, WKFC, rgL, FF]
  refine wst hsn 6 (some 133) (.move (.tmp 7)) none ?_
  simp only [rgC, seval, J04, J02, WKFC, FF]
  refine wst hsn 7 (some 134) (.nilCheck (.tmp 133)) none ?_
  simp only [rgC, seval, J04, J02, WKFC, FF]
  refine wst hsn 8 (some 135) (.fieldAddr 46 (.tmp 134) 1) none ?_
  simp only [rgC, seval, J04, J02, WKFC, Nat.zero_add, FF]
  refine wst hsn 9 (some 136) (.load 9 (.tmp 135)) none ?_
  simp only [rgC, seval, J04, J02, WKFC, rgL, FF]
  refine wst hsn 10 (some 137) (.buildSlice 27 1 #[(0, .tmp 136)]) none ?_
  simp only [rgC, seval, J04, J02, WKFC, List.map_cons, List.map_nil, FF]
  refine wst hsn 11 (some 138) (.call { callee := .builtin .append, args := #[.tmp 132, .tmp 137], argTypes := #[27, 27] }) none ?_
  simp only [rgC, seval, J04, J02, WKFC, rgK, FF]
  refine wst hsn 12 (some 139) (.nilCheck (.tmp 127)) none ?_
  simp only [rgC, seval, J04, J02, WKFC, FF]
  refine wst hsn 13 (some 140) (.fieldAddr 83 (.tmp 139) 0) none ?_
  simp only [rgC, seval, J04, J02, WKFC, Nat.zero_add, FF]
  refine wst hsn 14 (some 141) (.fieldAddr 30 (.tmp 140) 4) none ?_
  simp only [rgC, seval, J04, J02, WKFC, Nat.zero_add, FF]
  refine wst hsn 15 (none) (.store 27 (.tmp 141) (.tmp 138)) none ?_
  simp only [rgC, seval, J04, J02, WKFC, J17, rgS, FF]
  refine WKF.done (i := 16) (by kernel_rfl) ?_
  clear FF
  simp only [evC, seval, ↓evP, rpC]
  refine hk _ _ _ _ _ _ _ _ (by simp only [Tr.get_put, if_true]) hp2 (tg _) (fun i hi => nl _ .dead i hi h1' a7 a6) ?_ a5
  show h.next ≤ h1'.next; omega
 ·obtain ⟨v', h1', a1, a2, a3, a4, a5, a6, a7, hp2⟩ := hp.appU ((at_ : Int) + 1) (by omega)
  have c5 := hp.c5
  have w1 : IntKind.i64.wrap ((at_ : Int) + 1) = (at_ : Int) + 1 := J0s (by omega) (by omega)
  have hst : J0K Tryd.prog h1' 28 (.pointer (some ⟨m, 5, none⟩)) v' = _ := stc sz28 a4 a3 (a2.trans hp.cell) (by simp only [List.length_cons, List.length_nil]; omega) (by rw [a5]; exact hflm)
  simp only [List.set_cons_succ, List.set_cons_zero] at hst
  simp only [evC, seval, ↓evP, rpC, t0, t1, t8, Int.reduceBEq, J0g, J36, J0n, c5, w1, bs28, a1, hst]
  refine hk _ _ _ _ _ _ _ _ (by simp only [Tr.get_put, if_true]) hp2 (tg _) (fun i hi => nl _ .dead i hi h1' a7 a6) ?_ a5
  show h.next ≤ h1'.next; omega
end
structure WfS (s : StN) : Prop where
 q : s.queues.length ≤ 16
 v : s.vars.length ≤ 16
 t : s.tags.length ≤ 4
 u : s.rules.length ≤ 64
 o : s.on.length = s.queues.length
 th : ∀ t ∈ s.things, 1 ≤ t.kind ∧ t.kind ≤ 4 ∧ 0 ≤ t.num ∧ t.num < cntN s t.kind ∧ 0 ≤ t.known
theorem J3c (k : Int) : 0 ≤ J0j k ∧ J0j k ≤ 4 := by unfold J0j; (repeat' split) <;> omega
theorem Jcr (k : Int) : 0 ≤ J1O k ∧ J1O k ≤ 4 := by unfold J1O; (repeat' split) <;> omega
theorem J4g {l : List RowN} {k : Nat} {n : Int} {x : RowN} (hx : l[k]? = some x) : (setN l k n)[k]? = some { x with n := n } := by
 unfold setN
 rw [hx]
 simp [(List.getElem?_eq_some_iff.1 hx).1]
theorem JdD {s : StN} (hw : WfS s) (k : Int) : cntN s k ≤ 64 := by
 have := hw.q; have := hw.v; have := hw.t; have := hw.u
 unfold cntN
 (repeat' split) <;> omega
section
variable {call : J0r} {N : Nat} {h : SHeap} {lo m k c e r n : Nat} {nm : ByteArray} {E : List Int} {F : List Nat} {tag : Nat → Nat} {vq vv vt vu vo : Value} {es : List (Value × Value)} {s : StN}
def MkE (h : SHeap) (lo m k c e r n : Nat) (nm : ByteArray) (E : List Int) (F : List Nat) (s : StN) : Prop := ∃ tag vq vv vt vu vo es, MkP h lo m k c e r n nm E tag vq vv vt vu vo es s ∧ Many es s ∧ WfS s ∧ ∀ i ∈ F, i < h.next ∧ 11 ≤ tag i
def J2W (h H : SHeap) (lo : Nat) (F : List Nat) : Prop := (∀ i, i < lo ∨ i ∈ F → H.get i = h.get i) ∧ h.next ≤ H.next ∧ H.floor = h.floor
theorem Jfl {s s' : StN} {kd : Int} {es : List (Value × Value)} (hm : Many es s) (h1 : cntN s' kd = cntN s kd + 1) (h2 : ∀ k, 1 ≤ k → k ≤ 4 → k ≠ kd → cntN s' k = cntN s k) : Many (J2h (iv kd) (iv ((cntN s kd : Int) + 1)) es) s' := by
 refine ⟨Jb0 _ _ _ hm.1, fun k k1 k4 => ?_⟩
 rw [J5T _ _ _ _ hm.1]
 by_cases hk : k = kd
 ·subst hk
  rw [if_pos rfl, h1, if_neg (by omega)]
  rfl
 ·rw [if_neg hk, h2 k k1 k4 hk]
  exact hm.2 k k1 k4
theorem J9z {s : StN} {at_ : Nat} {end_ : Int} {x : RowN} {k : Int} (hk : 1 ≤ k ∧ k ≤ 4) : cntN (addN at_ end_ x s) k = cntN s k + (if k = J0j x.kind then 1 else 0) := by
 have hd := J3c x.kind
 generalize hkd : J0j x.kind = kd at *
 unfold cntN addN
 rw [hkd]
 obtain rfl | rfl | rfl | rfl : k = 1 ∨ k = 2 ∨ k = 3 ∨ k = 4 := by omega
 all_goals
  by_cases e : kd = 1
  ·subst e; simp
  by_cases e2 : kd = 2
  ·subst e2; simp
  by_cases e3 : kd = 3
  ·subst e3; simp
  by_cases e4 : kd = 4
  ·subst e4; simp
  simp [e, e2, e3, e4, Ne.symm e, Ne.symm e2, Ne.symm e3, Ne.symm e4]
  try omega
theorem JcU {s : StN} {at_ : Nat} {end_ : Int} {x : RowN} (hw : WfS s) (hkd : J0j x.kind ≠ 0) (hne : (cntN s (J0j x.kind) : Int) ≠ J3g (J0j x.kind)) (he : 0 ≤ end_) : WfS (addN at_ end_ x s) := by
 have hd := J3c x.kind
 have hq := hw.q; have hv := hw.v; have ht := hw.t; have hu := hw.u; have ho := hw.o
 have hth := hw.th
 have hcnt := fun k (hk : 1 ≤ k ∧ k ≤ 4) => J9z (s := s) (at_ := at_) (end_ := end_) (x := x) hk
 have key : ∀ t ∈ (addN at_ end_ x s).things, 1 ≤ t.kind ∧ t.kind ≤ 4 ∧ 0 ≤ t.num ∧ t.num < cntN (addN at_ end_ x s) t.kind ∧ 0 ≤ t.known := by
  intro t htm
  simp only [addN, List.mem_append, List.mem_cons, List.not_mem_nil, or_false] at htm
  rcases htm with htm | rfl
  ·obtain ⟨a1, a2, a3, a4, a5⟩ := hth t htm
   rw [hcnt _ ⟨a1, a2⟩]
   exact ⟨a1, a2, a3, by split <;> omega, a5⟩
  ·have hk1 : 1 ≤ J0j x.kind := by omega
   refine ⟨hk1, hd.2, Int.natCast_nonneg _, ?_, he⟩
   rw [hcnt _ ⟨hk1, hd.2⟩, if_pos rfl]
   simp only
   omega
 generalize hkd2 : J0j x.kind = kd at *
 have e : ∀ k, k = kd → 1 ≤ k → cntN s k ≠ (J3g k).toNat := by
  intro k hk h1 h
  subst hk
  apply hne
  rw [h]
  unfold J3g
  (repeat' split) <;> rfl
 constructor
 ·simp only [addN, hkd2]
  split
  ·rename_i h1
   have := e 1 h1.symm (by omega)
   simp [cntN, J3g] at this
   simp
   omega
  ·exact hq
 ·simp only [addN, hkd2]
  split
  ·rename_i h1
   have := e 2 h1.symm (by omega)
   simp [cntN, J3g] at this
   simp
   omega
  ·exact hv
 ·simp only [addN, hkd2]
  split
  ·rename_i h1
   have := e 3 h1.symm (by omega)
   simp [cntN, J3g] at this
   simp
   omega
  ·exact ht
 ·simp only [addN, hkd2]
  split
  ·rename_i h1
   have := e 4 h1.symm (by omega)
   simp [cntN, J3g] at this
   simp
   omega
  ·exact hu
 ·simp only [addN, hkd2]
  split
  ·simp [ho]
  ·exact ho
 ·exact key
set_option maxHeartbeats 4000000 in
theorem Jcy (hsn : J1G call) {at_ : Nat} {end_ : Int} {x : RowN} (hp : MkE h lo m k c e r n nm E F s) (hx : s.rows[at_]? = some x) (hkind : 1 ≤ x.kind ∧ x.kind ≤ 54) (hn : n < 1099511627776) (he : 0 ≤ end_)
  (h79 : ∀ k h', 1 ≤ k ∧ k ≤ 54 → call 79 [iv k] h' = some (iv (J0j k), h')) (h80 : ∀ k h', call 80 [iv k] h' = some (iv (J3g k), h')) :
  ∃ h', J0L Tryd.prog call N 51 [.pointer (some ⟨m, 0, none⟩), iv at_, iv end_] h = some (iv (J25 x s), h') ∧ (J2W h h' lo F ∧ (J25 x s = 0 → MkE h' lo m k c e r n nm E F (J0W at_ end_ x s))) := by
 obtain ⟨tag, vq, vv, vt, vu, vo, es, hp, hm, hw, hF⟩ := hp
 have hlF : ∀ i, i < lo ∨ i ∈ F → i < lo ∨ (i < h.next ∧ 11 ≤ tag i) := fun i hi => hi.imp id fun h => hF i h
 have hll : ∀ i, i < lo ∨ i ∈ F → i < h.next := fun i hi => by have := hp.lm; have := hlF i hi; omega
 refine J1N (R := fun h' => J2W h h' lo F ∧ (J25 x s = 0 → MkE h' lo m k c e r n nm E F (J0W at_ end_ x s))) Tryd.func51 rfl (by simp [Tryd.f51]) ?_
 have hr : Tryd.f51.results.toList = [.tmp 6] := rfl
 generalize hKK : Kont.top (fun ex s_1 => (ex = SExit.normal ∨ ex = SExit.ret) ∧ ∃ vs, resS Tryd.prog s_1 Tryd.f51.results.toList = some vs ∧ resV vs = iv (J25 x s) ∧ J2W h s_1.h lo F ∧ (J25 x s = 0 → MkE s_1.h lo m k c e r n nm E F (J0W at_ end_ x s))) = K
 have fin : ∀ (T' : Tr) H v, T'.get 6 = iv v → v = J25 x s → J2W h H lo F → (v = 0 → MkE H lo m k c e r n nm E F (J0W at_ end_ x s)) → K.ap Tryd.prog call N .ret ⟨T', H⟩ := fun T' H v h6 hv ha hb => by
  subst hv
  rw [← hKK]
  simp only [evC, ↓reduceIte, Nat.reduceEqDiff, reduceCtorEq, ↓evP, rpC, Nat.reduceAdd, Nat.reduceLT, hr, h6]
  exact ⟨ha, hb⟩
 show WK _ _ _ (.seq _ (.seq _ (.seq _ (.seq _ D5)))) _ _
 have hm1 := hp.c1
 obtain ⟨hlt, l0, l1, l2, l3, l4, lr⟩ := hp.row hx
 have hd79 := fun h' => h79 x.kind h' hkind
 have hdl := J3c x.kind
 by_cases d0 : J0j x.kind = 0
 ·have dE : J25 x s = 0 := by unfold J25; rw [if_pos d0]
  have dS : J0W at_ end_ x s = s := by unfold J0W; rw [if_pos d0]
  have b0 : (J0j x.kind == 0) = true := by simpa using d0
  simp only [evC, seval, ↓evP, rpC, J0g, J0y, J0F, hm1, J4z hlt, J0t, l0, hd79, b0]
  exact fin _ _ 0 (by simp only [Tr.get_put, if_true]) dE.symm ⟨fun _ _ => rfl, Nat.le_refl _, rfl⟩ fun _ => by rw [dS]; exact ⟨tag, vq, vv, vt, vu, vo, es, hp, hm, hw, hF⟩
 ·have b0 : (J0j x.kind == 0) = false := by simpa using d0
  simp only [evC, seval, ↓evP, rpC, J0g, J0y, J0F, hm1, J4z hlt, J0t, l0, hd79, b0]
  have hlh : lo ≤ h.next := by have := hp.lm; omega
  refine Ji7 hsn hp hx (by simp only [evC, seval, ↓evP, rpC]) (by simp only [evC, seval, ↓evP, rpC]) (fun T' H hf h6 ho hn hf2 => ?_) fun T' H hf hT ho hn1 hf2 => ?_
  ·exact fin _ _ 31 h6 (by unfold J25; rw [if_neg d0, if_pos hf]) ⟨fun i hi => ho i (hll i hi), hn, hf2⟩ fun h => by cases h
  ·have hp1 : MkP H lo m k c e r n nm E tag vq vv vt vu vo es s := hp.mono hn1 hf2 (fun _ _ => rfl) fun i _ hi => ho i hi
   have hE1 : ¬ (J30 s.things x.name).isSome = true := by rw [hf]; simp
   have cle := JdD hw (J0j x.kind)
   refine JhW (end_ := end_) hsn hp1 hx hm (by omega) hdl.2 (by omega) (fun h' => h80 _ h') hf (by rw [hT 0 (by decide)]; simp only [evC, seval, ↓evP, rpC]) (by rw [hT 2 (by decide)]; simp only [evC, seval, ↓evP, rpC]) (by rw [hT 7 (by decide)]; simp only [evC, seval, ↓evP, rpC]) (by rw [hT 8 (by decide)]; simp only [evC, seval, ↓evP, rpC]) (fun T2 hc h6 => ?_) fun T2 H2 hc hT2 hp2 ho2 hn2 hf3 => ?_
   ·exact fin _ _ 3 h6 (by unfold J25; rw [if_neg d0, if_neg hE1, if_pos hc]) ⟨fun i hi => ho i (hll i hi), hn1, hf2⟩ fun h => by cases h
   ·have hq := hw.q; have hv := hw.v; have ht := hw.t; have hu := hw.u; have ho' := hw.o
    refine Jfe hsn hp2 (at_ := at_) (x := { x with n := (cntN s (J0j x.kind) : Int) }) (J4g hx) (by omega) hdl.2 ⟨by show s.queues.length < 1000; omega, by show s.vars.length < 1000; omega, by show s.tags.length < 1000; omega, by show s.rules.length < 1000; omega, by show s.on.length < 1000; omega⟩ hn
     (by rw [hT2 0 (by decide), hT 0 (by decide)]; simp only [evC, seval, ↓evP, rpC]) (by rw [hT2 1 (by decide), hT 1 (by decide)]; simp only [evC, seval, ↓evP, rpC]) (by rw [hT2 7 (by decide), hT 7 (by decide)]; simp only [evC, seval, ↓evP, rpC]) (by rw [hT2 8 (by decide), hT 8 (by decide)]; simp only [evC, seval, ↓evP, rpC]) fun T3 H3 tag' vq' vv' vt' vu' vo' h6 hp3 htg ho3 hn3 hf4 => ?_
    have hS : J0W at_ end_ x s = addN at_ end_ x s := by unfold J0W; rw [if_neg d0]
    refine fin _ _ 0 h6 (by unfold J25; rw [if_neg d0, if_neg hE1, if_neg hc]) ⟨fun i hi => by
     have h0 := hlF i hi
     rw [ho3 i (by omega), ho2 i (by omega), ho i (hll i hi)], by omega, by rw [hf4, hf3, hf2]⟩ fun _ => ?_
    rw [hS]
    refine ⟨tag', vq', vv', vt', vu', vo', _, hp3, Jfl hm ?_ ?_, JcU hw d0 hc he, fun i hi => ?_⟩
    ·exact (J9z ⟨by omega, hdl.2⟩).trans (by rw [if_pos rfl])
    ·intro k k1 k4 hk
     exact (J9z ⟨k1, k4⟩).trans (by rw [if_neg hk, Nat.add_zero])
    ·have h0 := hF i hi
     rw [htg i (by omega)]
     exact ⟨by omega, h0.2⟩
end
theorem J1a {P : Program} : J0k P Go.program = some P := rfl
theorem J0C {P : Program} {α : Type} {a : α} : J0k P (pure a : Sem α) = some a := rfl
theorem eqi {P : Program} {t : TypeId} {k0 k : IntKind} {a b : Int} (h : P.underlying t = some (.int k0)) (d : Nat) : J0k P (Op.equalIn (d + 1) t (.int k a) (.int k b)) = some (a == b) := by
 rw [Op.equalIn, J0c, J1R h]
 simp [J0C]
theorem J62 {a b : Int} : J0k Tryd.prog (part 3 #[.int .i64 a, .int .i64 b] 0) = some (.int .i64 a) ∧ J0k Tryd.prog (part 3 #[.int .i64 a, .int .i64 b] 1) = some (.int .i64 b) ∧ J0k Tryd.prog (part 31 #[.int .i64 a, .int .i64 b] 0) = some (.int .i64 a) := ⟨rfl, rfl, rfl⟩
theorem JeJ : Tryd.prog.eqGuardType Tryd.prog.depth 114 = false := by kernel_rfl
theorem Jex : Tryd.prog.stoodInHeld 114 = false := by kernel_rfl
theorem JgZ : Tryd.prog.eqGuardType Tryd.prog.depth 33 = false := by kernel_rfl
theorem Jgk : Tryd.prog.stoodInHeld 33 = false := by kernel_rfl
abbrev J2R (a b : Int) : Value := .agg #[.int .i64 a, .int .i64 b]
theorem J8W {a b : Int} : flat (J2R a b) = true := rfl
theorem Jed {a b c d : Int} (n : Nat) : J0k Tryd.prog (Op.equalIn (n + 2) 114 (J2R a b) (J2R c d)) = some (a == c && b == d) := by
 rw [Op.equalIn, J0c, J1R Tryd.underlying114]
 simp only [Option.bind_some, J0c, J1a, Jex, Bool.false_eq_true, if_false, J0C]
 simp only [List.forIn_toArray, List.forIn_cons, List.forIn_nil, ne_eq, String.reduceEq, not_false_eq_true, if_true, J0c, J62.1, J62.2.1, J62.2.2, Option.bind_some, eqi Tryd.underlying3]
 cases h1 : (a == c) <;> cases h2 : (b == d) <;> simp [J0c, J0C, J62.1, J62.2.1, J62.2.2, eqi Tryd.underlying3, h1, h2, -beq_iff_eq, -beq_eq_false_iff_ne]
theorem JgG {a b c d : Int} (n : Nat) : J0k Tryd.prog (Op.equalIn (n + 2) 33 (J2R a b) (J2R c d)) = some (a == c && b == d) := by
 rw [Op.equalIn, J0c, J1R Tryd.underlying33]
 simp only [Option.bind_some, J0c, J1a, Jgk, Bool.false_eq_true, if_false, J0C]
 simp only [List.forIn_toArray, List.forIn_cons, List.forIn_nil, ne_eq, String.reduceEq, not_false_eq_true, if_true, J0c, J62.1, J62.2.1, J62.2.2, Option.bind_some, eqi Tryd.underlying3, eqi Tryd.underlying31]
 cases h1 : (a == c) <;> cases h2 : (b == d) <;> simp [J0c, J0C, J62.1, J62.2.1, J62.2.2, eqi Tryd.underlying3, eqi Tryd.underlying31, h1, h2, -beq_iff_eq, -beq_eq_false_iff_ne]
theorem Jfy {x y : Operand} {a b c d : Int} : binS Tryd.prog .neq 114 x y (J2R a b) (J2R c d) = some (.bool (!(a == c && b == d))) := by
 have e : J0k Tryd.prog (do eqGuard .neq 114 x y (J2R a b) (J2R c d); binOp .neq 114 (J2R a b) (J2R c d)) = some (.bool (!(a == c && b == d))) := by
  rw [J0c]
  have g : J0k Tryd.prog (eqGuard .neq 114 x y (J2R a b) (J2R c d)) = some () := by
   unfold eqGuard
   simp [J0c, J1a, J0C, JeJ]
  rw [g]
  show J0k Tryd.prog ((do pure (.bool (!(← Op.equal 114 (J2R a b) (J2R c d))))) : Sem Value) = _
  rw [J0c]
  have k : J0k Tryd.prog (Op.equal 114 (J2R a b) (J2R c d)) = some (a == c && b == d) := Jed 9998
  rw [k]
  rfl
 simp only [binS, J8W, Bool.and_self, if_true, e, J2F]
theorem eq33 {x y : Operand} {a b c d : Int} : binS Tryd.prog .eql 33 x y (J2R a b) (J2R c d) = some (.bool (a == c && b == d)) := by
 have e : J0k Tryd.prog (do eqGuard .eql 33 x y (J2R a b) (J2R c d); binOp .eql 33 (J2R a b) (J2R c d)) = some (.bool (a == c && b == d)) := by
  rw [J0c]
  have g : J0k Tryd.prog (eqGuard .eql 33 x y (J2R a b) (J2R c d)) = some () := by
   unfold eqGuard
   simp [J0c, J1a, J0C, JgZ]
  rw [g]
  show J0k Tryd.prog ((do pure (.bool (← Op.equal 33 (J2R a b) (J2R c d)))) : Sem Value) = _
  rw [J0c]
  have k : J0k Tryd.prog (Op.equal 33 (J2R a b) (J2R c d)) = some (a == c && b == d) := JgG 9998
  rw [k]
  rfl
 simp only [binS, J8W, Bool.and_self, if_true, e, J2F]
noncomputable def C5 : Code := rt (rt (rt (rt (Tryd.f52.body.getD .skip))))
noncomputable def Je2 : Array Oper := J18 Tryd.f52 5
def Jhn : List (Bool × Bool × List Operand) := [(false, true, []), (false, true, []), (false, true, []), (false, true, []), (false, true, [.tmp 26]), (false, true, [.tmp 26]), (false, true, [.tmp 26]), (false, true, [.tmp 26]), (false, false, []), (false, false, []), (false, false, []), (false, false, []), (false, true, [.tmp 26, .tmp 30, .tmp 27]), (false, false, []), (false, false, [])]
theorem Jdj : J1E Je2 = Jhn := by kernel_rfl
theorem JaR : ((J18 Tryd.f52 6)[2]?).bind (·.dst) = some 37 := by kernel_rfl
theorem J8y {a b c : Value} {ty : TypeId} {g ro : Bool} : ldN 2 0 (.row [a, b, c] ty g ro) = some (.agg #[a, b]) := rfl
section
variable {call : J0r} {N : Nat} {h : SHeap} {lo m k c e r n : Nat} {nm : ByteArray} {E : List Int} {F : List Nat} {tag : Nat → Nat} {vq vv vt vu vo : Value} {es : List (Value × Value)} {s : StN}
theorem JcZ {s : StN} {l : List RowN} {k : Int} : cntN { s with rows := l } k = cntN s k := rfl
set_option maxHeartbeats 4000000 in
theorem JcI (hsn : J1G call) {at_ : Nat} {x : RowN} (hp : MkE h lo m k c e r n nm E F s) (hx : s.rows[at_]? = some x) (hkind : 1 ≤ x.kind ∧ x.kind ≤ 54) (hn : n < 1099511627776)
  (h81 : ∀ k h', 1 ≤ k ∧ k ≤ 54 → call 81 [iv k] h' = some (iv (J1O k), h')) :
  ∃ h', J0L Tryd.prog call N 52 [.pointer (some ⟨m, 0, none⟩), iv at_] h = some (iv (J1v at_ x s), h') ∧ (J2W h h' lo F ∧ (J1v at_ x s = 0 → MkE h' lo m k c e r n nm E F (J0D at_ x s))) := by
 obtain ⟨tag, vq, vv, vt, vu, vo, es, hp, hm, hw, hF⟩ := hp
 have hlF : ∀ i, i < lo ∨ i ∈ F → i < lo ∨ (i < h.next ∧ 11 ≤ tag i) := fun i hi => hi.imp id fun h => hF i h
 have hll : ∀ i, i < lo ∨ i ∈ F → i < h.next := fun i hi => by have := hp.lm; have := hlF i hi; omega
 refine J1N (R := fun h' => J2W h h' lo F ∧ (J1v at_ x s = 0 → MkE h' lo m k c e r n nm E F (J0D at_ x s))) Tryd.func52 rfl (by simp [Tryd.f52]) ?_
 have hr : Tryd.f52.results.toList = [.tmp 4] := rfl
 generalize hKK : Kont.top (fun ex s_1 => (ex = SExit.normal ∨ ex = SExit.ret) ∧ ∃ vs, resS Tryd.prog s_1 Tryd.f52.results.toList = some vs ∧ resV vs = iv (J1v at_ x s) ∧ J2W h s_1.h lo F ∧ (J1v at_ x s = 0 → MkE s_1.h lo m k c e r n nm E F (J0D at_ x s))) = K
 have fin : ∀ (T' : Tr) H v, T'.get 4 = iv v → v = J1v at_ x s → J2W h H lo F → (v = 0 → MkE H lo m k c e r n nm E F (J0D at_ x s)) → K.ap Tryd.prog call N .ret ⟨T', H⟩ := fun T' H v h6 hv ha hb => by
  subst hv
  rw [← hKK]
  simp only [evC, ↓reduceIte, Nat.reduceEqDiff, reduceCtorEq, ↓evP, rpC, Nat.reduceAdd, Nat.reduceLT, hr, h6]
  exact ⟨ha, hb⟩
 show WK _ _ _ (.seq _ (.seq _ (.seq _ (.seq _ C5)))) _ _
 have hm1 := hp.c1
 obtain ⟨hlt, l0, l1, l2, l3, l4, lr⟩ := hp.row hx
 have hd81 := fun h' => h81 x.kind h' hkind
 have hdl := Jcr x.kind
 by_cases d0 : J1O x.kind = 0
 ·have dE : J1v at_ x s = 0 := by unfold J1v; rw [if_pos d0]
  have dS : J0D at_ x s = s := by unfold J0D; rw [if_pos d0]
  have b0 : (J1O x.kind == 0) = true := by simpa using d0
  simp only [evC, seval, ↓evP, rpC, J0g, J0y, J0F, hm1, J4z hlt, J0t, l0, hd81, b0]
  exact fin _ _ 0 (by simp only [Tr.get_put, if_true]) dE.symm ⟨fun _ _ => rfl, Nat.le_refl _, rfl⟩ fun _ => by rw [dS]; exact ⟨tag, vq, vv, vt, vu, vo, es, hp, hm, hw, hF⟩
 ·have b0 : (J1O x.kind == 0) = false := by simpa using d0
  simp only [evC, seval, ↓evP, rpC, J0g, J0y, J0F, hm1, J4z hlt, J0t, l0, hd81, b0]
  have hlh : lo ≤ h.next := by have := hp.lm; omega
  show WK _ _ _ (.seq (.region _ _ true) _) _ _
  rw [J4p]
  have c8 := hp.c8
  have hlook := J7x (x := x.name) hp.known
  have hmn := hp.lm.2
  have hkn := hp.lk.2
  have hrn := hp.pol.lr.2
  have hflo : h.floor ≤ h.next := by have := hp.fl; omega
  have n1 : (some m != some h.next) = true := by simp; omega
  have n2 : (some r != some h.next) = true := by simp; omega
  have n3 : (some k != some h.next) = true := by simp; omega
  have hnew : (h.push (.row [iv 0, iv 0, iv 0] 116 false false)).get h.next = .row [iv 0, iv 0, iv 0] 116 false false := J0h
  have hst := fun a b d => Je3 (a := iv a) (b := iv b) (c := iv d) hnew (by exact hflo) rfl
  have hold : ∀ o i, i < h.next → ((h.push (.row [iv 0, iv 0, iv 0] 116 false false)).put h.next o).get i = h.get i := fun o i hi => by rw [J05 (by show h.next < h.next + 1; omega) (by omega), J06 hi]
  have hgn : ∀ o, ((h.push (.row [iv 0, iv 0, iv 0] 116 false false)).put h.next o).get h.next = o := fun o => J0b rfl (by show h.next < h.next + 1; omega)
  have hfl0 : flat (.agg #[iv 0, iv 0, iv 0]) = true := rfl
  have hcl0 : (Value.agg #[iv 0, iv 0, iv 0]).cells.toList = [iv 0, iv 0, iv 0] := rfl
  have i1 : idOf (.pointer (some ⟨m, 8, none⟩)) = some m := rfl
  have i2 : idOf (.pointer (some ⟨r, at_ * 5 + 1, none⟩)) = some r := rfl
  have i3 : idOf (.map (some k)) = some k := rfl
  have i4 : idOf (.pointer (some ⟨h.next, 0, none⟩)) = some h.next := rfl
  refine WK.flags (ops := Je2) Jdj ?_
  refine WKF.begin ?_
  have FF := And.intro @J0Z (And.intro @J07 (And.intro @J1k (And.intro @J0d (And.intro @c8 @l1))))
  refine wst hsn 0 (some 24) (.move (.tmp 0)) none ?_
  simp only [rgC, seval, J04, J02, WKFC, FF]
  refine wst hsn 1 (some 25) (.nilCheck (.tmp 24)) none ?_
  simp only [rgC, seval, J04, J02, WKFC, FF]
  refine wst hsn 2 (some 26) (.fieldAddr 83 (.tmp 25) 1) none ?_
  simp only [rgC, seval, J04, J02, WKFC, Nat.zero_add, FF]
  refine wst hsn 3 (some 27) (.load 80 (.tmp 26)) none ?_
  simp only [rgC, seval, J04, J02, WKFC, rgL, FF]
  refine wst hsn 4 (some 28) (.move (.tmp 5)) none ?_
  simp only [rgC, seval, J04, J02, WKFC, FF]
  refine wst hsn 5 (some 29) (.nilCheck (.tmp 28)) none ?_
  simp only [rgC, seval, J04, J02, WKFC, FF]
  refine wst hsn 6 (some 30) (.fieldAddr 46 (.tmp 29) 1) none ?_
  simp only [rgC, seval, J04, J02, WKFC, Nat.zero_add, FF]
  refine wst hsn 7 (some 31) (.load 9 (.tmp 30)) none ?_
  simp only [rgC, seval, J04, J02, WKFC, rgL, FF]
  clear FF
  cases hf : J30 s.things x.name with
  | none =>
   rw [hf] at hlook
   have FF := And.intro @hlook (And.intro @J1j (And.intro @hfl0 (And.intro @hcl0 (And.intro @hst (And.intro @i1 (And.intro @i2 (And.intro @i3 (And.intro @i4 (And.intro @n1 (And.intro @n2 @n3))))))))))
   refine wst hsn 8 (some 32) (.lookup 80 (.tmp 27) (.tmp 31) true) none ?_
   simp only [rgC, seval, J04, J02, WKFC, rgL, List.getElem?_toArray, List.getElem?_cons_succ, List.getElem?_cons_zero, J17, List.all_cons, List.all_nil, Bool.and_self, FF]
   refine wst hsn 9 (some 23) (.move (.tmp 32)) none ?_
   simp only [rgC, seval, J04, J02, WKFC, List.getElem?_toArray, List.getElem?_cons_succ, List.getElem?_cons_zero, J17, List.all_cons, List.all_nil, Bool.and_self, FF]
   refine wst hsn 10 (some 33) (.extract (.tmp 23) 0) none ?_
   simp only [rgC, seval, J04, J02, WKFC, List.getElem?_toArray, List.getElem?_cons_succ, List.getElem?_cons_zero, J17, List.all_cons, List.all_nil, Bool.and_self, FF]
   refine wst hsn 11 (some 34) (.extract (.tmp 23) 1) none ?_
   simp only [rgC, seval, J04, J02, WKFC, List.getElem?_toArray, List.getElem?_cons_succ, List.getElem?_cons_zero, J17, List.all_cons, List.all_nil, Bool.and_self, FF]
   refine wst hsn 12 (some 7) (.alloc 116) none ?_
   simp only [rgC, seval, J04, J02, WKFC, rgA, List.getElem?_toArray, List.getElem?_cons_succ, List.getElem?_cons_zero, J17, List.all_cons, List.all_nil, Bool.and_self, FF]
   refine wst hsn 13 (none) (.store 116 (.tmp 7) (.tmp 33)) none ?_
   simp only [rgC, seval, J04, J02, WKFC, J17, rgS, List.getElem?_toArray, List.getElem?_cons_succ, List.getElem?_cons_zero, J17, List.all_cons, List.all_nil, Bool.and_self, FF]
   refine wst hsn 14 (some 8) (.assign (.tmp 34)) none ?_
   simp only [rgC, seval, J04, J02, WKFC, List.getElem?_toArray, List.getElem?_cons_succ, List.getElem?_cons_zero, J17, List.all_cons, List.all_nil, Bool.and_self, FF]
   refine WKF.done (i := 15) (by kernel_rfl) ?_
   clear FF
   have dE : J1v at_ x s = 32 := by unfold J1v; rw [if_neg d0, hf]
   simp only [evC, seval, ↓evP, rpC, JaR]
   exact fin _ _ 32 (by simp only [Tr.get_put, if_true]) dE.symm ⟨fun i hi => hold _ i (hll i hi), by show h.next ≤ h.next + 1; omega, rfl⟩ fun h => by cases h
  | some t =>
   rw [hf] at hlook
   have FF := And.intro @hlook (And.intro @J1j (And.intro @hfl0 (And.intro @hcl0 (And.intro @hst (And.intro @i1 (And.intro @i2 (And.intro @i3 (And.intro @i4 (And.intro @n1 (And.intro @n2 @n3))))))))))
   refine wst hsn 8 (some 32) (.lookup 80 (.tmp 27) (.tmp 31) true) none ?_
   simp only [rgC, seval, J04, J02, WKFC, rgL, List.getElem?_toArray, List.getElem?_cons_succ, List.getElem?_cons_zero, J17, List.all_cons, List.all_nil, Bool.and_self, FF]
   refine wst hsn 9 (some 23) (.move (.tmp 32)) none ?_
   simp only [rgC, seval, J04, J02, WKFC, List.getElem?_toArray, List.getElem?_cons_succ, List.getElem?_cons_zero, J17, List.all_cons, List.all_nil, Bool.and_self, FF]
   refine wst hsn 10 (some 33) (.extract (.tmp 23) 0) none ?_
   simp only [rgC, seval, J04, J02, WKFC, List.getElem?_toArray, List.getElem?_cons_succ, List.getElem?_cons_zero, J17, List.all_cons, List.all_nil, Bool.and_self, FF]
   refine wst hsn 11 (some 34) (.extract (.tmp 23) 1) none ?_
   simp only [rgC, seval, J04, J02, WKFC, List.getElem?_toArray, List.getElem?_cons_succ, List.getElem?_cons_zero, J17, List.all_cons, List.all_nil, Bool.and_self, FF]
   refine wst hsn 12 (some 7) (.alloc 116) none ?_
   simp only [rgC, seval, J04, J02, WKFC, rgA, List.getElem?_toArray, List.getElem?_cons_succ, List.getElem?_cons_zero, J17, List.all_cons, List.all_nil, Bool.and_self, FF]
   refine wst hsn 13 (none) (.store 116 (.tmp 7) (.tmp 33)) none ?_
   simp only [rgC, seval, J04, J02, WKFC, J17, rgS, List.getElem?_toArray, List.getElem?_cons_succ, List.getElem?_cons_zero, J17, List.all_cons, List.all_nil, Bool.and_self, FF]
   refine wst hsn 14 (some 8) (.assign (.tmp 34)) none ?_
   simp only [rgC, seval, J04, J02, WKFC, List.getElem?_toArray, List.getElem?_cons_succ, List.getElem?_cons_zero, J17, List.all_cons, List.all_nil, Bool.and_self, FF]
   refine WKF.done (i := 15) (by kernel_rfl) ?_
   clear FF
   have hp1 : MkP ((h.push (.row [iv 0, iv 0, iv 0] 116 false false)).put h.next (.row [iv t.kind, iv t.num, iv t.known] 116 false false)) lo m k c e r n nm E tag vq vv vt vu vo es s := hp.putNew
   have hgo := hold (.row [iv t.kind, iv t.num, iv t.known] 116 false false)
   have hgd := hgn (.row [iv t.kind, iv t.num, iv t.known] 116 false false)
   have hnx : ((h.push (.row [iv 0, iv 0, iv 0] 116 false false)).put h.next (.row [iv t.kind, iv t.num, iv t.known] 116 false false)).next = h.next + 1 := rfl
   have hfl : ((h.push (.row [iv 0, iv 0, iv 0] 116 false false)).put h.next (.row [iv t.kind, iv t.num, iv t.known] 116 false false)).floor = h.floor := rfl
   generalize (h.push (.row [iv 0, iv 0, iv 0] 116 false false)).put h.next (.row [iv t.kind, iv t.num, iv t.known] 116 false false) = H1 at *
   generalize hdd : h.next = d at *
   have htm : t ∈ s.things := List.mem_of_find?_eq_some hf
   obtain ⟨q1, q2, q3, q4, q5⟩ := hw.th t htm
   cases dk : decide (t.known > (at_ : Int)) with
   | true =>
    have dE : J1v at_ x s = 32 := by unfold J1v; rw [if_neg d0, hf]; simp only; rw [if_pos (by simpa using dk)]
    simp only [evC, seval, ↓evP, rpC, JaR, J7R, hgd, dk]
    exact fin _ _ 32 (by simp only [Tr.get_put, if_true]) dE.symm ⟨fun i hi => hgo i (hll i hi), by omega, hfl⟩ fun h => by cases h
   | false =>
    have dk' : ¬ t.known > (at_ : Int) := by simpa using dk
    cases dq : (t.kind == J1O x.kind) with
    | false =>
     have dE : J1v at_ x s = 33 := by unfold J1v; rw [if_neg d0, hf]; simp only; rw [if_neg dk', if_pos (by simpa using dq)]
     simp only [evC, seval, ↓evP, rpC, JaR, J7R, Jac, Jaq, Jax, hgd, dk, J8y, J3i, Jfy, dq, Bool.false_and]
     exact fin _ _ 33 (by simp only [Tr.get_put, if_true]) dE.symm ⟨fun i hi => hgo i (hll i hi), by omega, hfl⟩ fun h => by cases h
    | true =>
     have dq' : ¬ t.kind ≠ J1O x.kind := by simpa using dq
     have dE : J1v at_ x s = 0 := by unfold J1v; rw [if_neg d0, hf]; simp only; rw [if_neg dk', if_neg dq']
     have dS : J0D at_ x s = { s with rows := setN s.rows at_ t.num } := by unfold J0D; rw [if_neg d0, hf]
     have hrl := J0N s.rows
     have hlen := hp1.pol.len
     have hst3 := stc (off := at_ * 5 + 3) sz3 (v := iv t.num) rfl rfl hp1.pol.rows (by rw [hrl]; omega) (by have := hp1.fl; have := hp1.pol.lr.1; omega)
     rw [J3N hx] at hst3
     have hp3 := hp1.putR (l := setN s.rows at_ t.num) J4N
     simp only [evC, seval, ↓evP, rpC, JaR, J7R, Jac, Jaq, Jax, hgd, dk, J8y, J3i, Jfy, dq, hst3]
     refine fin _ _ 0 (by simp only [Tr.get_put, if_true]) dE.symm ⟨fun i hi => ?_, by show h.next ≤ H1.next; omega, hfl⟩ fun _ => ?_
     ·rw [J05 hp1.pol.lr.2 (J8l (h := h) (tag := tag) hp1.pol.lr.1 (by rw [hp1.pol.tr]; decide) (by rw [hdd]; exact hlF i hi))]
      exact hgo i (hll i hi)
     ·rw [dS]
      exact ⟨tag, vq, vv, vt, vu, vo, es, hp3, hm, ⟨hw.q, hw.v, hw.t, hw.u, hw.o, hw.th⟩, fun i hi => ⟨by have h0 := hF i hi; show i < H1.next; omega, (hF i hi).2⟩⟩
end
end Go.Proofs.YtipekdhneagdbaaDoor
