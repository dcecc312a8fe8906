/- Least spans of numbers: plain laws. -/
import Derived.Test.YtdnnjkneablfiaaGreatDoorSxDv
namespace Go.Proofs.YtdnnjkneablfiaaGreatDoor
open Go Go.Sx
set_option linter.unusedSimpArgs false
set_option linter.unusedVariables false

theorem noneB_true {a b : Int} : noneB a b = true ↔ a > b := by unfold noneB; simp
theorem noneB_false {a b : Int} : noneB a b = false ↔ a ≤ b := by unfold noneB; simp

theorem joinN_l {a b c d : Int} (h : a > b) (h2 : c ≤ d) : joinN a b c d = (c, d) := by
  unfold joinN
  rw [noneB_true.2 h, noneB_false.2 h2]
  simp
theorem joinN_r {a b c d : Int} (h : a ≤ b) (h2 : c > d) : joinN a b c d = (a, b) := by
  unfold joinN
  rw [noneB_false.2 h, noneB_true.2 h2]
  simp
theorem joinN_n {a b c d : Int} (h : a > b) (h2 : c > d) : joinN a b c d = (1, 0) := by
  unfold joinN
  rw [noneB_true.2 h, noneB_true.2 h2]
  simp
theorem joinN_b {a b c d : Int} (h : a ≤ b) (h2 : c ≤ d) : joinN a b c d = (if c < a then c else a, if d > b then d else b) := by
  unfold joinN
  rw [noneB_false.2 h, noneB_false.2 h2]
  simp
theorem joinN_comm (a b c d : Int) : joinN a b c d = joinN c d a b := by
  by_cases h : a > b <;> by_cases h2 : c > d
  · rw [joinN_n h h2, joinN_n h2 h]
  · rw [joinN_l h (by omega), joinN_r (by omega) h]
  · rw [joinN_r (by omega) h2, joinN_l h2 (by omega)]
  · rw [joinN_b (by omega) (by omega), joinN_b (by omega) (by omega)]
    refine Prod.ext ?_ ?_ <;> simp only <;> (repeat' split) <;> omega
theorem joinN_in {a b c d : Int} (h : a ≤ b) : (joinN a b c d).1 ≤ (joinN a b c d).2 := by
  by_cases h2 : c > d
  · rw [joinN_r h h2]; exact h
  · rw [joinN_b h (by omega)]
    simp only
    (repeat' split) <;> omega
theorem joinN_in' {a b c d : Int} (h : c ≤ d) : (joinN a b c d).1 ≤ (joinN a b c d).2 := by rw [joinN_comm]; exact joinN_in h
theorem joinN_assoc (a b c d e f : Int) : joinN (joinN a b c d).1 (joinN a b c d).2 e f = joinN a b (joinN c d e f).1 (joinN c d e f).2 := by
  by_cases h1 : a > b <;> by_cases h2 : c > d <;> by_cases h3 : e > f
  · rw [joinN_n h1 h2, joinN_n h2 h3, joinN_n (a := 1) (b := 0) (by omega) h3, joinN_n h1 (by simp)]
  · rw [joinN_n h1 h2, joinN_l h2 (by omega), joinN_l (a := 1) (b := 0) (by omega) (by omega), joinN_l h1 (by omega)]
  · rw [joinN_l h1 (by omega), joinN_r (by omega) h3, joinN_l h1 (by omega)]
  · have h := joinN_in (a := c) (b := d) (c := e) (d := f) (by omega)
    rw [joinN_l h1 (by omega), joinN_l h1 h]
  · rw [joinN_r (by omega) h2, joinN_n h2 h3, joinN_r (by omega) h3, joinN_r (by omega) (by simp)]
  · rw [joinN_r (by omega) h2, joinN_l h2 (by omega)]
  · have h := joinN_in (a := a) (b := b) (c := c) (d := d) (by omega)
    rw [joinN_r h h3, joinN_r (by omega) h3]
  · have h := joinN_in (a := a) (b := b) (c := c) (d := d) (by omega)
    have h' := joinN_in (a := c) (b := d) (c := e) (d := f) (by omega)
    rw [joinN_b h (by omega), joinN_b (by omega) h', joinN_b (by omega) (by omega), joinN_b (by omega) (by omega)]
    refine Prod.ext ?_ ?_ <;> simp only <;> (repeat' split) <;> omega
theorem meetN_comm (a b c d : Int) : meetN a b c d = meetN c d a b := by
  have e1 : (if c > a then c else a) = (if a > c then a else c) := by (repeat' split) <;> omega
  have e2 : (if d < b then d else b) = (if b < d then b else d) := by (repeat' split) <;> omega
  unfold meetN
  rw [e1, e2]
  by_cases h : noneB a b = true <;> by_cases h2 : noneB c d = true <;> simp [h, h2]
theorem meetN_out {a b c d : Int} (h : a > b ∨ c > d ∨ a > d ∨ c > b) : meetN a b c d = (1, 0) := by
  unfold meetN noneB
  simp only [decide_eq_true_eq]
  rw [if_pos]
  by_cases h1 : a > b
  · exact .inl h1
  · by_cases h2 : c > d
    · exact .inr (.inl h2)
    · refine .inr (.inr ?_)
      (repeat' split) <;> omega
theorem meetN_in {a b c d : Int} (h : a ≤ b ∧ c ≤ d ∧ a ≤ d ∧ c ≤ b) : meetN a b c d = (if c > a then c else a, if d < b then d else b) := by
  unfold meetN noneB
  simp only [decide_eq_true_eq]
  rw [if_neg]
  rintro (h1 | h1 | h1)
  · omega
  · omega
  · revert h1
    (repeat' split) <;> omega
theorem meetN_assoc (a b c d e f : Int) : meetN (meetN a b c d).1 (meetN a b c d).2 e f = meetN a b (meetN c d e f).1 (meetN c d e f).2 := by
  by_cases h1 : a ≤ b ∧ c ≤ d ∧ a ≤ d ∧ c ≤ b
  · rw [meetN_in h1]
    by_cases h2 : c ≤ d ∧ e ≤ f ∧ c ≤ f ∧ e ≤ d
    · rw [meetN_in h2]
      by_cases h3 : a ≤ f ∧ e ≤ b
      · rw [meetN_in, meetN_in]
        · refine Prod.ext ?_ ?_ <;> simp only <;> (repeat' split) <;> omega
        · simp only; (repeat' split) <;> omega
        · simp only; (repeat' split) <;> omega
      · rw [meetN_out, meetN_out]
        · simp only; (repeat' split) <;> omega
        · simp only; (repeat' split) <;> omega
    · rw [meetN_out (a := c) (by omega), meetN_out, meetN_out (by simp)]
      simp only
      (repeat' split) <;> omega
  · rw [meetN_out (a := a) (b := b) (c := c) (d := d) (by omega), meetN_out (a := 1) (b := 0) (by omega)]
    by_cases h2 : c ≤ d ∧ e ≤ f ∧ c ≤ f ∧ e ≤ d
    · rw [meetN_in h2, meetN_out]
      simp only
      (repeat' split) <;> omega
    · rw [meetN_out (a := c) (by omega), meetN_out (by simp)]

/-! ### The least span of a list of numbers -/
def chain (o : Int × Int) (l : List Int) : Int × Int := l.foldl (fun o c => joinN o.1 o.2 c c) o
def IsHull (l : List Int) (o : Int × Int) : Prop := o.1 ∈ l ∧ o.2 ∈ l ∧ ∀ c ∈ l, o.1 ≤ c ∧ c ≤ o.2
theorem chain_append (o : Int × Int) (l m : List Int) : chain o (l ++ m) = chain (chain o l) m := List.foldl_append
theorem chain_cons (o : Int × Int) (c : Int) (m : List Int) : chain o (c :: m) = chain (joinN o.1 o.2 c c) m := rfl
theorem join_first (c : Int) : joinN 1 0 c c = (c, c) := joinN_l (by omega) (Int.le_refl c)
theorem hull_step {l : List Int} {o : Int × Int} (h : IsHull l o) (c : Int) : IsHull (l ++ [c]) (joinN o.1 o.2 c c) := by
  obtain ⟨h1, h2, h3⟩ := h
  have hle := (h3 _ h1).2
  rw [joinN_b hle (Int.le_refl c)]
  refine ⟨?_, ?_, fun x hx => ?_⟩
  · simp only
    split
    · simp
    · simp [h1]
  · simp only
    split
    · simp
    · simp [h2]
  · simp only [List.mem_append, List.mem_singleton] at hx
    simp only
    rcases hx with hx | rfl
    · have := h3 x hx
      (repeat' split) <;> omega
    · (repeat' split) <;> omega
theorem hull_chain : ∀ (m l : List Int) (o : Int × Int), IsHull l o → IsHull (l ++ m) (chain o m) := by
  intro m
  induction m with
  | nil => intro l o h; simpa [chain] using h
  | cons c m ih =>
    intro l o h
    have := ih _ _ (hull_step h c)
    rw [List.append_assoc] at this
    exact this
theorem chain_hull {l : List Int} (h : l ≠ []) : IsHull l (chain (1, 0) l) := by
  cases l with
  | nil => exact absurd rfl h
  | cons c m =>
    have : IsHull [c] (c, c) := ⟨by simp, by simp, by simp⟩
    have := hull_chain m _ _ this
    rw [chain_cons, join_first]
    exact this
/-- The same least span: each number of one list lies between two of the other one. -/
theorem hull_same {l m : List Int} {o p : Int × Int} (hl : IsHull l o) (hm : IsHull m p) (h1 : ∀ c ∈ l, (∃ d ∈ m, d ≤ c) ∧ ∃ d ∈ m, c ≤ d) (h2 : ∀ c ∈ m, (∃ d ∈ l, d ≤ c) ∧ ∃ d ∈ l, c ≤ d) : o = p := by
  obtain ⟨a1, a2, a3⟩ := hl
  obtain ⟨b1, b2, b3⟩ := hm
  obtain ⟨⟨x1, y1, z1⟩, _⟩ := h1 _ a1
  obtain ⟨_, ⟨x2, y2, z2⟩⟩ := h1 _ a2
  obtain ⟨⟨x3, y3, z3⟩, _⟩ := h2 _ b1
  obtain ⟨_, ⟨x4, y4, z4⟩⟩ := h2 _ b2
  have := b3 _ y1
  have := b3 _ y2
  have := a3 _ y3
  have := a3 _ y4
  exact Prod.ext (by omega) (by omega)
theorem hull_same' {l m : List Int} {o p : Int × Int} (hl : IsHull l o) (hm : IsHull m p) (h : ∀ c, c ∈ l ↔ c ∈ m) : o = p :=
  hull_same hl hm (fun c hc => ⟨⟨c, (h c).1 hc, Int.le_refl c⟩, c, (h c).1 hc, Int.le_refl c⟩) fun c hc => ⟨⟨c, (h c).2 hc, Int.le_refl c⟩, c, (h c).2 hc, Int.le_refl c⟩

/-! ### What an operation makes of two spans -/
def within (B1 B2 : Int) (y : Int) : Bool := decide (y ≥ B1) && decide (y ≤ B2)
theorem within_iff {B1 B2 y : Int} : within B1 B2 y = true ↔ B1 ≤ y ∧ y ≤ B2 := by simp [within]
def rowOf (F : Int → Int → Int) (x : Int) (ys : List Int) : List Int := ys.map fun y => clampN (F x y)
def valsOf (F : Int → Int → Int) (xs ys : List Int) : List Int := xs.flatMap fun x => rowOf F x ys
theorem mem_valsOf {F : Int → Int → Int} {xs ys : List Int} {c : Int} : c ∈ valsOf F xs ys ↔ ∃ x ∈ xs, ∃ y ∈ ys, clampN (F x y) = c := by
  simp [valsOf, rowOf]
theorem foldY_chain (F : Int → Int → Int) (x B1 B2 : Int) (ys : List Int) : ∀ o, foldY F x B1 B2 o ys = chain o (rowOf F x (ys.filter (within B1 B2))) := by
  induction ys with
  | nil => intro o; rfl
  | cons y ys ih =>
    intro o
    show foldY F x B1 B2 (stepY F x B1 B2 o y) ys = _
    rw [ih]
    cases h : within B1 B2 y with
    | false =>
      have : stepY F x B1 B2 o y = o := by
        unfold stepY within at *
        rw [h]
        rfl
      rw [this, List.filter_cons_of_neg (by rw [h]; simp)]
    | true =>
      have : stepY F x B1 B2 o y = joinN o.1 o.2 (clampN (F x y)) (clampN (F x y)) := by
        unfold stepY within at *
        rw [h]
        rfl
      rw [this, List.filter_cons_of_pos h]
      rfl
theorem foldX_chain (F : Int → Int → Int) (B1 B2 : Int) (ys xs : List Int) : ∀ o, foldX F B1 B2 ys o xs = chain o (valsOf F xs (ys.filter (within B1 B2))) := by
  induction xs with
  | nil => intro o; rfl
  | cons x xs ih =>
    intro o
    show foldX F B1 B2 ys (foldY F x B1 B2 o ys) xs = _
    rw [ih, foldY_chain, ← chain_append]
    rfl
theorem clampN_mono {a b : Int} (h : a ≤ b) : clampN a ≤ clampN b := by unfold clampN; (repeat' split) <;> omega
theorem clampN_clampN (x : Int) : clampN (clampN x) = clampN x := clampN_self (clampN_range x)
/-- The numbers whose least span is told. -/
def spots (F : Int → Int → Int) (os : List Int) (a1 a2 b1 b2 : Int) : List Int := valsOf F [clampN a1, clampN a2] (([clampN b1, clampN b2] ++ os).filter (within (clampN b1) (clampN b2)))
theorem mem_spots {F : Int → Int → Int} {os : List Int} {a1 a2 b1 b2 c : Int} : c ∈ spots F os a1 a2 b1 b2 ↔ ∃ x, (x = clampN a1 ∨ x = clampN a2) ∧ ∃ y, (y = clampN b1 ∨ y = clampN b2 ∨ y ∈ os) ∧ (clampN b1 ≤ y ∧ y ≤ clampN b2) ∧ clampN (F x y) = c := by
  unfold spots
  rw [mem_valsOf]
  simp only [List.mem_filter, within_iff, List.mem_cons, List.mem_append, List.not_mem_nil, or_false, and_assoc, or_assoc]
theorem ofN_spots {F : Int → Int → Int} {os : List Int} {a1 a2 b1 b2 : Int} (ha : a1 ≤ a2) (hb : b1 ≤ b2) : ofN F os a1 a2 b1 b2 = chain (1, 0) (spots F os a1 a2 b1 b2) := by
  unfold ofN
  rw [if_neg (by rw [noneB_true, noneB_true]; omega), foldX_chain]
  rfl
theorem ofN_none {F : Int → Int → Int} {os : List Int} {a1 a2 b1 b2 : Int} (h : a1 > a2 ∨ b1 > b2) : ofN F os a1 a2 b1 b2 = (1, 0) := by
  unfold ofN
  rw [if_pos (by rw [noneB_true, noneB_true]; exact h)]
theorem spots_first {F : Int → Int → Int} {os : List Int} {a1 a2 b1 b2 : Int} (hb : b1 ≤ b2) : clampN (F (clampN a1) (clampN b1)) ∈ spots F os a1 a2 b1 b2 :=
  mem_spots.2 ⟨_, .inl rfl, _, .inl rfl, ⟨Int.le_refl _, clampN_mono hb⟩, rfl⟩
theorem ofN_hull {F : Int → Int → Int} {os : List Int} {a1 a2 b1 b2 : Int} (ha : a1 ≤ a2) (hb : b1 ≤ b2) : IsHull (spots F os a1 a2 b1 b2) (ofN F os a1 a2 b1 b2) := by
  rw [ofN_spots ha hb]
  exact chain_hull (List.ne_nil_of_mem (spots_first hb))
theorem ofN_comm {F : Int → Int → Int} (hF : ∀ x y, F x y = F y x) (a1 a2 b1 b2 : Int) : ofN F [] a1 a2 b1 b2 = ofN F [] b1 b2 a1 a2 := by
  by_cases ha : a1 ≤ a2
  · by_cases hb : b1 ≤ b2
    · refine hull_same' (ofN_hull ha hb) (ofN_hull hb ha) fun c => ?_
      have m1 := clampN_mono ha
      have m2 := clampN_mono hb
      rw [mem_spots, mem_spots]
      constructor
      · rintro ⟨x, hx, y, hy, hr, rfl⟩
        refine ⟨y, by simpa using hy, x, by rcases hx with h | h <;> simp [h], ?_, by rw [hF]⟩
        rcases hx with rfl | rfl <;> omega
      · rintro ⟨x, hx, y, hy, hr, rfl⟩
        refine ⟨y, by simpa using hy, x, by rcases hx with h | h <;> simp [h], ?_, by rw [hF]⟩
        rcases hx with rfl | rfl <;> omega
    · rw [ofN_none (.inr (by omega)), ofN_none (.inl (by omega))]
  · rw [ofN_none (.inl (by omega)), ofN_none (.inr (by omega))]
end Go.Proofs.YtdnnjkneablfiaaGreatDoor
