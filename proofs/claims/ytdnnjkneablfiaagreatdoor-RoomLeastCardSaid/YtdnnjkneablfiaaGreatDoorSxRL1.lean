/- The least span of an operation is the least one: the ends (and the numbers beside 0) tell it. -/
import Derived.Test.YtdnnjkneablfiaaGreatDoorSxRL0
namespace Go.Proofs.YtdnnjkneablfiaaGreatDoor
open Go Go.Sx
set_option linter.unusedSimpArgs false
set_option linter.unusedVariables false

/-- An operation's results are least and greatest at the ends, or at one of some other numbers of the second. -/
def Ext (G : Int → Int → Int) (os : List Int) : Prop := ∀ a1 a2 b1 b2 x y, a1 ≤ x → x ≤ a2 → b1 ≤ y → y ≤ b2 →
  (∃ x', (x' = a1 ∨ x' = a2) ∧ ∃ y', (y' = b1 ∨ y' = b2 ∨ y' ∈ os) ∧ (b1 ≤ y' ∧ y' ≤ b2) ∧ G x' y' ≤ G x y) ∧
  (∃ x', (x' = a1 ∨ x' = a2) ∧ ∃ y', (y' = b1 ∨ y' = b2 ∨ y' ∈ os) ∧ (b1 ≤ y' ∧ y' ≤ b2) ∧ G x y ≤ G x' y')

theorem ext_add : Ext (· + ·) [] := fun a1 a2 b1 b2 x y h1 h2 h3 h4 =>
  ⟨⟨a1, .inl rfl, b1, .inl rfl, ⟨by omega, by omega⟩, by show a1 + b1 ≤ x + y; omega⟩, ⟨a2, .inr rfl, b2, .inr (.inl rfl), ⟨by omega, by omega⟩, by show x + y ≤ a2 + b2; omega⟩⟩
theorem ext_sub : Ext (· - ·) [] := fun a1 a2 b1 b2 x y h1 h2 h3 h4 =>
  ⟨⟨a1, .inl rfl, b2, .inr (.inl rfl), ⟨by omega, by omega⟩, by show a1 - b2 ≤ x - y; omega⟩, ⟨a2, .inr rfl, b1, .inl rfl, ⟨by omega, by omega⟩, by show x - y ≤ a2 - b1; omega⟩⟩
theorem ext_min : Ext minF [] := fun a1 a2 b1 b2 x y h1 h2 h3 h4 =>
  ⟨⟨a1, .inl rfl, b1, .inl rfl, ⟨by omega, by omega⟩, by unfold minF; (repeat' split) <;> omega⟩, ⟨a2, .inr rfl, b2, .inr (.inl rfl), ⟨by omega, by omega⟩, by unfold minF; (repeat' split) <;> omega⟩⟩
theorem ext_max : Ext maxF [] := fun a1 a2 b1 b2 x y h1 h2 h3 h4 =>
  ⟨⟨a1, .inl rfl, b1, .inl rfl, ⟨by omega, by omega⟩, by unfold maxF; (repeat' split) <;> omega⟩, ⟨a2, .inr rfl, b2, .inr (.inl rfl), ⟨by omega, by omega⟩, by unfold maxF; (repeat' split) <;> omega⟩⟩
theorem lin {p q t : Int} (c : Int) (h1 : p ≤ t) (h2 : t ≤ q) : (∃ t', (t' = p ∨ t' = q) ∧ t' * c ≤ t * c) ∧ ∃ t', (t' = p ∨ t' = q) ∧ t * c ≤ t' * c := by
  by_cases hc : 0 ≤ c
  · exact ⟨⟨p, .inl rfl, Int.mul_le_mul_of_nonneg_right h1 hc⟩, ⟨q, .inr rfl, Int.mul_le_mul_of_nonneg_right h2 hc⟩⟩
  · have hc' : c ≤ 0 := by omega
    exact ⟨⟨q, .inr rfl, Int.mul_le_mul_of_nonpos_right h2 hc'⟩, ⟨p, .inl rfl, Int.mul_le_mul_of_nonpos_right h1 hc'⟩⟩
theorem ext_mul : Ext (· * ·) [] := fun a1 a2 b1 b2 x y h1 h2 h3 h4 => by
  have fin : ∀ y', (y' = b1 ∨ y' = b2) → b1 ≤ y' ∧ y' ≤ b2 := fun y' h => by rcases h with rfl | rfl <;> omega
  have toL : ∀ y', (y' = b1 ∨ y' = b2) → (y' = b1 ∨ y' = b2 ∨ y' ∈ ([] : List Int)) := fun y' h => by rcases h with rfl | rfl <;> simp
  obtain ⟨⟨x1, hx1, e1⟩, ⟨x2, hx2, e2⟩⟩ := lin y h1 h2
  obtain ⟨⟨y1, hy1, e3⟩, _⟩ := lin x1 h3 h4
  obtain ⟨_, ⟨y2, hy2, e4⟩⟩ := lin x2 h3 h4
  rw [Int.mul_comm y1, Int.mul_comm y] at e3
  rw [Int.mul_comm y2, Int.mul_comm y] at e4
  exact ⟨⟨x1, hx1, y1, toL _ hy1, fin _ hy1, by show x1 * y1 ≤ x * y; omega⟩, ⟨x2, hx2, y2, toL _ hy2, fin _ hy2, by show x * y ≤ x2 * y2; omega⟩⟩

/-! ### Division -/
theorem dv_pos {x y : Int} (h : 0 < y) : dvN x y = x / y := by
  unfold dvN
  rw [if_neg (by omega)]
  obtain ⟨p, hp, h1, h2, h3, h4, h5, h6, h7, h8, h9⟩ := div_facts x y (by omega)
  obtain ⟨f1, f2⟩ := flN_of (a := x) (b := y)
  symm
  by_cases hm : x.tmod y = 0
  · rw [f1 hm]
    exact ((Int.ediv_emod_unique (r := 0) h).2 ⟨by omega, by omega, by omega⟩).1
  · rw [f2 hm]
    by_cases hx : 0 ≤ x
    · have := h2 hx
      have e : (decide (x.tmod y < 0) != decide (y < 0)) = false := by
        rw [decide_eq_false (by omega : ¬ x.tmod y < 0), decide_eq_false (by omega : ¬ y < 0)]; rfl
      rw [e, if_neg (by decide)]
      exact ((Int.ediv_emod_unique (r := x.tmod y) h).2 ⟨by omega, by omega, by omega⟩).1
    · have := h3 (by omega)
      have e : (decide (x.tmod y < 0) != decide (y < 0)) = true := by
        rw [decide_eq_true (by omega : x.tmod y < 0), decide_eq_false (by omega : ¬ y < 0)]; rfl
      rw [e, if_pos rfl]
      have e2 : y * (x.tdiv y - 1) = p - y := by rw [Int.mul_sub, ← hp, Int.mul_one]
      exact ((Int.ediv_emod_unique (r := x.tmod y + y) h).2 ⟨by omega, by omega, by omega⟩).1
theorem dv_neg {x y : Int} (h : y < 0) : dvN x y = (-x) / (-y) := by
  unfold dvN
  rw [if_neg (by omega)]
  obtain ⟨p, hp, h1, h2, h3, h4, h5, h6, h7, h8, h9⟩ := div_facts x y (by omega)
  obtain ⟨f1, f2⟩ := flN_of (a := x) (b := y)
  have hn : 0 < -y := by omega
  symm
  by_cases hm : x.tmod y = 0
  · rw [f1 hm]
    have e2 : (-y) * (x.tdiv y) = -p := by rw [Int.neg_mul, ← hp]
    exact ((Int.ediv_emod_unique (r := 0) hn).2 ⟨by omega, by omega, by omega⟩).1
  · rw [f2 hm]
    by_cases hx : 0 ≤ x
    · have := h2 hx
      have e : (decide (x.tmod y < 0) != decide (y < 0)) = true := by
        rw [decide_eq_false (by omega : ¬ x.tmod y < 0), decide_eq_true (by omega : y < 0)]; rfl
      rw [e, if_pos rfl]
      have e2 : (-y) * (x.tdiv y - 1) = -p + y := by rw [Int.neg_mul, Int.mul_sub, ← hp, Int.mul_one]; omega
      exact ((Int.ediv_emod_unique (r := -(x.tmod y + y)) hn).2 ⟨by omega, by omega, by omega⟩).1
    · have := h3 (by omega)
      have e : (decide (x.tmod y < 0) != decide (y < 0)) = false := by
        rw [decide_eq_true (by omega : x.tmod y < 0), decide_eq_true (by omega : y < 0)]; rfl
      rw [e, if_neg (by decide)]
      have e2 : (-y) * (x.tdiv y) = -p := by rw [Int.neg_mul, ← hp]
      exact ((Int.ediv_emod_unique (r := -(x.tmod y)) hn).2 ⟨by omega, by omega, by omega⟩).1
theorem div_mono_y {x y1 y2 : Int} (h1 : 0 < y1) (h2 : y1 ≤ y2) : (0 ≤ x → x / y2 ≤ x / y1) ∧ (x < 0 → x / y1 ≤ x / y2) := by
  constructor
  · intro hx
    refine Int.le_ediv_of_mul_le h1 ?_
    have e1 := Int.ediv_mul_le x (b := y2) (by omega)
    have e2 : 0 ≤ x / y2 := Int.ediv_nonneg hx (by omega)
    have e3 := Int.mul_le_mul_of_nonneg_left h2 e2
    omega
  · intro hx
    refine Int.le_ediv_of_mul_le (by omega) ?_
    have e1 := Int.ediv_mul_le x (b := y1) (by omega)
    have e2 : x / y1 ≤ 0 := by
      have := Int.ediv_neg_of_neg_of_pos hx h1
      omega
    have e3 := Int.mul_le_mul_of_nonpos_left e2 h2
    omega
/-- Over divisors above 0 a quotient is least and greatest at the ends. -/
theorem div_ends {x y p q : Int} (h0 : 0 < p) (h1 : p ≤ y) (h2 : y ≤ q) : (∃ y', (y' = p ∨ y' = q) ∧ x / y' ≤ x / y) ∧ ∃ y', (y' = p ∨ y' = q) ∧ x / y ≤ x / y' := by
  by_cases hx : 0 ≤ x
  · exact ⟨⟨q, .inr rfl, (div_mono_y (by omega) h2).1 hx⟩, ⟨p, .inl rfl, (div_mono_y h0 h1).1 hx⟩⟩
  · exact ⟨⟨p, .inl rfl, (div_mono_y h0 h1).2 (by omega)⟩, ⟨q, .inr rfl, (div_mono_y (by omega) h2).2 (by omega)⟩⟩
theorem ext_div : Ext dvN [-1, 0, 1] := fun a1 a2 b1 b2 x y h1 h2 h3 h4 => by
  have z : ∀ x, dvN x 0 = 0 := fun x => by unfold dvN; rw [if_pos rfl]
  rcases Int.lt_trichotomy y 0 with hy | rfl | hy
  · -- below 0
    obtain ⟨r, hr, hr2, hr3⟩ : ∃ r, (r = b2 ∨ r ∈ ([-1, 0, 1] : List Int)) ∧ y ≤ r ∧ r < 0 ∧ r ≤ b2 := by
      by_cases hb : b2 < 0
      · exact ⟨b2, .inl rfl, h4, hb, by omega⟩
      · exact ⟨-1, .inr (by simp), by omega, by omega, by omega⟩
    have pick : ∀ y'', (y'' = -r ∨ y'' = -b1) → ∃ y', (y' = b1 ∨ y' = b2 ∨ y' ∈ ([-1, 0, 1] : List Int)) ∧ (b1 ≤ y' ∧ y' ≤ b2) ∧ y' < 0 ∧ y'' = -y' := fun y'' h => by
      rcases h with rfl | rfl
      · exact ⟨r, .inr hr, by omega, by omega, rfl⟩
      · exact ⟨b1, .inl rfl, by omega, by omega, rfl⟩
    have low : ∀ x', dvN x' y = (-x') / (-y) := fun x' => dv_neg hy
    have m1 : (-a2) / (-y) ≤ (-x) / (-y) := Int.ediv_le_ediv (by omega) (by omega)
    have m2 : (-x) / (-y) ≤ (-a1) / (-y) := Int.ediv_le_ediv (by omega) (by omega)
    obtain ⟨⟨t1, ht1, e1⟩, _⟩ := div_ends (x := -a2) (y := -y) (p := -r) (q := -b1) (by omega) (by omega) (by omega)
    obtain ⟨_, ⟨t2, ht2, e2⟩⟩ := div_ends (x := -a1) (y := -y) (p := -r) (q := -b1) (by omega) (by omega) (by omega)
    obtain ⟨y1, k1, k2, k3, rfl⟩ := pick t1 ht1
    obtain ⟨y2, k4, k5, k6, rfl⟩ := pick t2 ht2
    rw [dv_neg hy]
    exact ⟨⟨a2, .inr rfl, y1, k1, k2, by rw [dv_neg k3]; omega⟩, ⟨a1, .inl rfl, y2, k4, k5, by rw [dv_neg k6]; omega⟩⟩
  · exact ⟨⟨a1, .inl rfl, 0, .inr (.inr (by simp)), ⟨h3, h4⟩, by rw [z, z]; exact Int.le_refl 0⟩, ⟨a1, .inl rfl, 0, .inr (.inr (by simp)), ⟨h3, h4⟩, by rw [z, z]; exact Int.le_refl 0⟩⟩
  · obtain ⟨r, hr, hr2, hr3⟩ : ∃ r, (r = b1 ∨ r ∈ ([-1, 0, 1] : List Int)) ∧ r ≤ y ∧ 0 < r ∧ b1 ≤ r := by
      by_cases hb : 0 < b1
      · exact ⟨b1, .inl rfl, h3, hb, by omega⟩
      · exact ⟨1, .inr (by simp), by omega, by omega, by omega⟩
    have pick : ∀ y', (y' = r ∨ y' = b2) → (y' = b1 ∨ y' = b2 ∨ y' ∈ ([-1, 0, 1] : List Int)) ∧ (b1 ≤ y' ∧ y' ≤ b2) ∧ 0 < y' := fun y' h => by
      rcases h with rfl | rfl
      · refine ⟨?_, by omega, by omega⟩
        rcases hr with h | h
        · exact .inl h
        · exact .inr (.inr h)
      · exact ⟨.inr (.inl rfl), by omega, by omega⟩
    have m1 : a1 / y ≤ x / y := Int.ediv_le_ediv hy h1
    have m2 : x / y ≤ a2 / y := Int.ediv_le_ediv hy h2
    obtain ⟨⟨t1, ht1, e1⟩, _⟩ := div_ends (x := a1) (y := y) (p := r) (q := b2) (by omega) (by omega) h4
    obtain ⟨_, ⟨t2, ht2, e2⟩⟩ := div_ends (x := a2) (y := y) (p := r) (q := b2) (by omega) (by omega) h4
    obtain ⟨k1, k2, k3⟩ := pick t1 ht1
    obtain ⟨k4, k5, k6⟩ := pick t2 ht2
    rw [dv_pos hy]
    exact ⟨⟨a1, .inl rfl, t1, k1, k2, by rw [dv_pos k3]; omega⟩, ⟨a2, .inr rfl, t2, k4, k5, by rw [dv_pos k6]; omega⟩⟩

/-! ### The law -/
def Sm (x : Int) : Prop := -100 ≤ x ∧ x ≤ 100
theorem upto_none {a b : Int} (h : a > b) : upto a b = [] := by
  have : (b + 1 - a).toNat = 0 := by omega
  simp [upto, this]
theorem rawOf_nil {F : Int → Int → Int} {xs : List Int} : rawOf F xs [] = [] := by simp [rawOf]
theorem least_law {G F M : Int → Int → Int} {os : List Int} (hE : Ext G os) (hF : ∀ x y, Sm x → Sm y → clampN (F x y) = G x y) {a1 a2 b1 b2 : Int} (hM : ∀ x y, a1 ≤ x ∧ x ≤ a2 → Sm x → Sm y → M x y = G x y) (r1 : Sm a1) (r2 : Sm a2) (r3 : Sm b1) (r4 : Sm b2) :
    chain (1, 0) (rawOf M (upto a1 a2) (upto b1 b2)) = ofN F os a1 a2 b1 b2 := by
  unfold Sm at *
  by_cases ha : a1 ≤ a2
  · by_cases hb : b1 ≤ b2
    · have e1 : clampN a1 = a1 := clampN_self (by omega)
      have e2 : clampN a2 = a2 := clampN_self (by omega)
      have e3 : clampN b1 = b1 := clampN_self (by omega)
      have e4 : clampN b2 = b2 := clampN_self (by omega)
      have hne : rawOf M (upto a1 a2) (upto b1 b2) ≠ [] := List.ne_nil_of_mem (mem_rawOf.2 ⟨a1, mem_upto.2 ⟨by omega, ha⟩, b1, mem_upto.2 ⟨by omega, hb⟩, rfl⟩)
      refine (hull_same (ofN_hull ha hb) (chain_hull hne) (fun c hc => ?_) fun c hc => ?_).symm
      · have hm : c ∈ rawOf M (upto a1 a2) (upto b1 b2) := by
          rw [mem_spots, e1, e2, e3, e4] at hc
          obtain ⟨x, hx, y, hy, hw, rfl⟩ := hc
          have hxr : a1 ≤ x ∧ x ≤ a2 := by rcases hx with rfl | rfl <;> omega
          exact mem_rawOf.2 ⟨x, mem_upto.2 hxr, y, mem_upto.2 hw, by rw [hM x y hxr (by omega) (by omega), hF x y (by omega) (by omega)]⟩
        exact ⟨⟨c, hm, Int.le_refl c⟩, c, hm, Int.le_refl c⟩
      · obtain ⟨x, hx, y, hy, rfl⟩ := mem_rawOf.1 hc
        rw [mem_upto] at hx hy
        obtain ⟨⟨x1, k1, y1, k2, k3, k4⟩, ⟨x2, k5, y2, k6, k7, k8⟩⟩ := hE a1 a2 b1 b2 x y hx.1 hx.2 hy.1 hy.2
        rw [hM x y hx (by omega) (by omega)]
        have hx1 : a1 ≤ x1 ∧ x1 ≤ a2 := by rcases k1 with rfl | rfl <;> omega
        have hx2 : a1 ≤ x2 ∧ x2 ≤ a2 := by rcases k5 with rfl | rfl <;> omega
        exact ⟨⟨G x1 y1, by rw [mem_spots, e1, e2, e3, e4]; exact ⟨x1, k1, y1, k2, k3, hF x1 y1 (by omega) (by omega)⟩, k4⟩,
          ⟨G x2 y2, by rw [mem_spots, e1, e2, e3, e4]; exact ⟨x2, k5, y2, k6, k7, hF x2 y2 (by omega) (by omega)⟩, k8⟩⟩
    · rw [ofN_none (.inr (by omega)), upto_none (a := b1) (b := b2) (by omega), rawOf_nil]
      rfl
  · rw [ofN_none (.inl (by omega)), upto_none (by omega)]
    rfl
theorem sm_mul {x y : Int} (hx : Sm x) (hy : Sm y) : -10000 ≤ x * y ∧ x * y ≤ 10000 := by
  unfold Sm at *
  have h1 : x.natAbs ≤ 100 := by omega
  have h2 : y.natAbs ≤ 100 := by omega
  have h3 := Nat.mul_le_mul h1 h2
  rw [← Int.natAbs_mul] at h3
  omega
theorem sm_div {x y : Int} (hx : Sm x) : -200 ≤ dvN x y ∧ dvN x y ≤ 200 := by
  unfold Sm at *
  unfold dvN
  split
  · omega
  · rename_i h0
    obtain ⟨p, hp, h1, h2, h3, h4, h5, h6, h7, h8, h9⟩ := div_facts x y h0
    unfold flN
    split <;> omega
section
variable {a1 a2 b1 b2 : Int} (r1 : Sm a1) (r2 : Sm a2) (r3 : Sm b1) (r4 : Sm b2)
include r1 r2 r3 r4
theorem least_add : chain (1, 0) (rawOf (madeW 45) (upto a1 a2) (upto b1 b2)) = ofN (· + ·) [] a1 a2 b1 b2 :=
  least_law ext_add (fun x y hx hy => clampN_self (by unfold Sm at *; omega)) (fun x y _ hx hy => by unfold Sm madeW at *; rw [if_pos rfl, wrap_id (by omega) (by omega)]) r1 r2 r3 r4
theorem least_sub : chain (1, 0) (rawOf (madeW 46) (upto a1 a2) (upto b1 b2)) = ofN (· - ·) [] a1 a2 b1 b2 :=
  least_law ext_sub (fun x y hx hy => clampN_self (by unfold Sm at *; omega)) (fun x y _ hx hy => by unfold Sm madeW at *; rw [if_neg (by decide), if_pos rfl, wrap_id (by omega) (by omega)]) r1 r2 r3 r4
theorem least_mul : chain (1, 0) (rawOf (madeW 43) (upto a1 a2) (upto b1 b2)) = ofN (· * ·) [] a1 a2 b1 b2 :=
  least_law ext_mul (fun x y hx hy => clampN_self (by have := sm_mul hx hy; omega)) (fun x y _ hx hy => by
    have := sm_mul hx hy
    unfold madeW
    rw [if_neg (by decide), if_neg (by decide), if_pos rfl, wrap_id (by omega) (by omega)]) r1 r2 r3 r4
theorem least_div : chain (1, 0) (rawOf (madeW 44) (upto a1 a2) (upto b1 b2)) = ofN divN [-1, 0, 1] a1 a2 b1 b2 :=
  least_law ext_div (fun x y hx hy => by rw [divN_dvN]; exact clampN_self (by have := sm_div (y := y) hx; omega)) (fun x y _ hx hy => by
    unfold madeW
    rw [if_neg (by decide), if_neg (by decide), if_neg (by decide), if_pos rfl]) r1 r2 r3 r4
theorem least_min : chain (1, 0) (rawOf (madeW 39) (upto a1 a2) (upto b1 b2)) = ofN minF [] a1 a2 b1 b2 :=
  least_law ext_min (fun x y hx hy => clampN_self (by unfold Sm minF at *; split <;> omega)) (fun x y _ hx hy => by
    unfold madeW minF
    rw [if_neg (by decide), if_neg (by decide), if_neg (by decide), if_neg (by decide), if_neg (by decide), if_pos rfl]) r1 r2 r3 r4
theorem least_max : chain (1, 0) (rawOf (madeW 40) (upto a1 a2) (upto b1 b2)) = ofN maxF [] a1 a2 b1 b2 :=
  least_law ext_max (fun x y hx hy => clampN_self (by unfold Sm maxF at *; split <;> omega)) (fun x y _ hx hy => by
    unfold madeW maxF
    rw [if_neg (by decide), if_neg (by decide), if_neg (by decide), if_neg (by decide), if_neg (by decide), if_neg (by decide)]) r1 r2 r3 r4
omit r3 r4 in
theorem least_neg : chain (1, 0) (rawOf (madeW 41) (upto a1 a2) (upto 0 0)) = ofN (· - ·) [] 0 0 a1 a2 := by
  have e : rawOf (madeW 41) (upto a1 a2) (upto 0 0) = (upto a1 a2).map fun x => madeW 41 x 0 := by
    have : upto 0 0 = [0] := rfl
    rw [this]
    unfold rawOf
    induction upto a1 a2 with
    | nil => rfl
    | cons x xs ih => rw [List.flatMap_cons, ih]; rfl
  have e2 : rawOf (fun _ y => madeW 41 y 0) (upto 0 0) (upto a1 a2) = (upto a1 a2).map fun x => madeW 41 x 0 := by
    have : upto 0 0 = [0] := rfl
    rw [this]
    unfold rawOf
    simp
  rw [e, ← e2]
  refine least_law (G := (· - ·)) ?_ (fun x y hx hy => clampN_self (by unfold Sm at *; omega)) ?_ (by unfold Sm; omega) (by unfold Sm; omega) r1 r2
  · exact ext_sub
  · intro x y hx hsx hsy
    have : x = 0 := by omega
    subst this
    unfold Sm madeW at *
    rw [if_neg (by decide), if_neg (by decide), if_neg (by decide), if_neg (by decide), if_pos rfl, wrap_id (by omega) (by omega)]
end
end Go.Proofs.YtdnnjkneablfiaaGreatDoor
