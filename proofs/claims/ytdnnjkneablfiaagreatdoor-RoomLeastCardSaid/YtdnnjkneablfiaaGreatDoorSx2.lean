/- The shadow heap and the world: how they hang together. -/
import Derived.Test.YtdnnjkneablfiaaGreatDoorSx1
namespace Go.Sx
open Go

inductive All2 {α β : Type} (R : α → β → Prop) : List α → List β → Prop
  | nil : All2 R [] []
  | cons {a b l m} : R a b → All2 R l m → All2 R (a :: l) (b :: m)

namespace All2
variable {α β : Type} {R S : α → β → Prop}
theorem length {l : List α} {m : List β} (h : All2 R l m) : l.length = m.length := by
  induction h with
  | nil => rfl
  | cons _ _ ih => simp [ih]
theorem mono {l : List α} {m : List β} (hs : ∀ a b, R a b → S a b) (h : All2 R l m) : All2 S l m := by
  induction h with
  | nil => exact .nil
  | cons h _ ih => exact .cons (hs _ _ h) ih
theorem append {l l' : List α} {m m' : List β} (h : All2 R l m) (h' : All2 R l' m') : All2 R (l ++ l') (m ++ m') := by
  induction h with
  | nil => exact h'
  | cons h _ ih => exact .cons h ih
theorem get {l : List α} {m : List β} (h : All2 R l m) {i : Nat} {a : α} (ha : l[i]? = some a) : ∃ b, m[i]? = some b ∧ R a b := by
  induction h generalizing i with
  | nil => simp at ha
  | cons h _ ih =>
    cases i with
    | zero => simp at ha; subst ha; exact ⟨_, rfl, h⟩
    | succ i => simp at ha; simpa using ih ha
theorem getR {l : List α} {m : List β} (h : All2 R l m) {i : Nat} {b : β} (hb : m[i]? = some b) : ∃ a, l[i]? = some a ∧ R a b := by
  induction h generalizing i with
  | nil => simp at hb
  | cons h _ ih =>
    cases i with
    | zero => simp at hb; subst hb; exact ⟨_, rfl, h⟩
    | succ i => simp at hb; simpa using ih hb
theorem of_get {l : List α} {m : List β} (hl : l.length = m.length) (h : ∀ (i : Nat) (a : α) (b : β), l[i]? = some a → m[i]? = some b → R a b) : All2 R l m := by
  induction l generalizing m with
  | nil => cases m with
    | nil => exact .nil
    | cons _ _ => simp at hl
  | cons a l ih => cases m with
    | nil => simp at hl
    | cons b m => exact .cons (h 0 a b rfl rfl) (ih (by simpa using hl) fun i x y hx hy => h (i + 1) x y (by simpa using hx) (by simpa using hy))
theorem drop {l : List α} {m : List β} (h : All2 R l m) (n : Nat) : All2 R (l.drop n) (m.drop n) :=
  of_get (by simp [h.length]) fun i a b ha hb => by
    rw [List.getElem?_drop] at ha hb
    obtain ⟨b', hb', r⟩ := h.get ha
    rw [hb'] at hb
    cases hb
    exact r
theorem take {l : List α} {m : List β} (h : All2 R l m) (n : Nat) : All2 R (l.take n) (m.take n) := by
  induction h generalizing n with
  | nil => simpa using All2.nil
  | cons h _ ih => cases n with
    | zero => simpa using All2.nil
    | succ n => simpa using All2.cons h (ih n)
theorem map {γ δ : Type} {f : α → γ} {g : β → δ} {S : γ → δ → Prop} {l : List α} {m : List β} (h : All2 R l m) (hs : ∀ a b, R a b → S (f a) (g b)) : All2 S (l.map f) (m.map g) := by
  induction h with
  | nil => exact .nil
  | cons h _ ih => exact .cons (hs _ _ h) ih
theorem same {l : List α} {R : α → α → Prop} (h : ∀ a ∈ l, R a a) : All2 R l l := by
  induction l with
  | nil => exact .nil
  | cons a l ih => exact .cons (h a (by simp)) (ih fun b hb => h b (by simp [hb]))
theorem set {l : List α} {m : List β} (h : All2 R l m) {i : Nat} {a : α} {b : β} (hr : R a b) : All2 R (l.set i a) (m.set i b) := by
  induction h generalizing i with
  | nil => exact .nil
  | cons h ht ih => cases i with
    | zero => exact .cons hr ht
    | succ i => exact .cons h (ih (i := i))
theorem reverse {l : List α} {m : List β} (h : All2 R l m) : All2 R l.reverse m.reverse := by
  induction h with
  | nil => exact .nil
  | cons h _ ih => simpa using ih.append (.cons h .nil)
end All2

abbrev Map := Nat → Option Loc

/-- A shadow value and a value of the machine. -/
inductive vrel (ρ : Map) : Value → Value → Prop
  | flat {v} : flat1 v = true → vrel ρ v v
  | ptr {id off L} : ρ id = some L → vrel ρ (.pointer (some ⟨id, off, none⟩)) (.pointer (some ⟨L.b, L.d + off, none⟩))
  | slice {id off L n c} : ρ id = some L → c < unk → vrel ρ (.slice (some ⟨id, off, none⟩) n c) (.slice (some ⟨L.b, L.d + off, none⟩) n c)
  | sliceU {id off L n c a} : ρ id = some L → n ≤ c → (c = 0 ∨ (a = ⟨L.b, L.d + off, none⟩ ∧ off + c * L.z = L.e)) → vrel ρ (.slice (some ⟨id, off, none⟩) n unk) (.slice (some a) n c)
  | map {id L} : ρ id = some L → vrel ρ (.map (some id)) (.map (some L.b))
  | func {fn f f' c c'} : All2 (vrel ρ) f.toList f'.toList → All2 (vrel ρ) c.toList c'.toList → vrel ρ (.func fn f c) (.func fn f' c')
  | iface {t v v'} : vrel ρ v v' → vrel ρ (.iface t v) (.iface t v')
  | agg {cs cs'} : All2 (vrel ρ) cs.toList cs'.toList → vrel ρ (.agg cs) (.agg cs')
  | tuple {cs cs'} : All2 (vrel ρ) cs.toList cs'.toList → vrel ρ (.tuple cs) (.tuple cs')

theorem vrel.mono {ρ ρ' : Map} (hx : ∀ i L, ρ i = some L → ρ' i = some L) {v V : Value} (h : vrel ρ v V) : vrel ρ' v V := by
  refine vrel.rec (motive_1 := fun v V _ => vrel ρ' v V) (motive_2 := fun l m _ => All2 (vrel ρ') l m) ?_ ?_ ?_ ?_ ?_ ?_ ?_ ?_ ?_ ?_ ?_ h
  · intro v hv; exact .flat hv
  · intro id off L hL; exact .ptr (hx _ _ hL)
  · intro id off L n c hL hc; exact .slice (hx _ _ hL) hc
  · intro id off L n c a hL hn ha; exact .sliceU (hx _ _ hL) hn ha
  · intro id L hL; exact .map (hx _ _ hL)
  · intro fn f f' c c' _ _ h1 h2; exact .func h1 h2
  · intro t v v' _ h; exact .iface h
  · intro cs cs' _ h; exact .agg h
  · intro cs cs' _ h; exact .tuple h
  · exact .nil
  · intro a b l m _ _ h1 h2; exact .cons h1 h2

theorem flat1_eq {ρ : Map} {v V : Value} (hf : flat1 v = true) (h : vrel ρ v V) : V = v := by
  cases h with
  | flat _ => rfl
  | sliceU _ _ _ => simp [flat1] at hf
  | _ => simp [flat1] at hf

theorem all2_flat {ρ : Map} {l m : List Value} (h : All2 (vrel ρ) l m) (hf : l.all flat1 = true) : m = l := by
  induction h with
  | nil => rfl
  | cons h _ ih =>
    simp at hf
    rw [flat1_eq hf.1 h, ih (by simpa using hf.2)]

theorem flat_eq {ρ : Map} {v V : Value} (hf : flat v = true) (h : vrel ρ v V) : V = v := by
  cases h with
  | agg h =>
    simp only [flat] at hf
    have := all2_flat h hf
    congr 1
    exact Array.toList_inj.1 this
  | flat hv => rfl
  | _ => first | rfl | simp [flat, flat1] at hf

theorem vrel_flat {ρ : Map} {v : Value} (hf : flat v = true) : vrel ρ v v := by
  unfold flat at hf
  split at hf
  · rename_i cs
    refine .agg (All2.same fun a ha => .flat ?_)
    exact List.all_eq_true.1 hf a ha
  · exact .flat hf

theorem vrel_undef {ρ : Map} : vrel ρ undef undef := .tuple .nil

theorem vrel_cells {ρ : Map} {v V : Value} (h : vrel ρ v V) : All2 (vrel ρ) v.cells.toList V.cells.toList := by
  cases h with
  | agg h => exact h
  | flat hv =>
    have : v.cells = #[v] := by
      cases v <;> simp [flat1] at hv <;> rfl
    rw [this]
    exact .cons (.flat hv) .nil
  | ptr h => exact .cons (.ptr h) .nil
  | slice h h' => exact .cons (.slice h h') .nil
  | sliceU h h1 h2 => exact .cons (.sliceU h h1 h2) .nil
  | map h => exact .cons (.map h) .nil
  | func h h' => exact .cons (.func h h') .nil
  | iface h => exact .cons (.iface h) .nil
  | tuple h => exact .cons (.tuple h) .nil

theorem vrel_one {ρ : Map} {v V : Value} (h : vrel ρ v V) : one V = one v := by
  cases h <;> rfl

theorem vrel_bool {ρ : Map} {b : Bool} {V : Value} (h : vrel ρ (.bool b) V) : V = .bool b := flat1_eq rfl h
theorem vrel_int {ρ : Map} {k : IntKind} {n : Int} {V : Value} (h : vrel ρ (.int k n) V) : V = .int k n := flat1_eq rfl h
theorem vrel_str {ρ : Map} {s : ByteArray} {V : Value} (h : vrel ρ (.string s) V) : V = .string s := flat1_eq rfl h

theorem vrel_ptr {ρ : Map} {id off : Nat} {V : Value} (h : vrel ρ (.pointer (some ⟨id, off, none⟩)) V) : ∃ L, ρ id = some L ∧ V = .pointer (some ⟨L.b, L.d + off, none⟩) := by
  cases h with
  | flat h => simp [flat1] at h
  | ptr h => exact ⟨_, h, rfl⟩
theorem vrel_ptr' {ρ : Map} {a : Addr} {V : Value} (h : vrel ρ (.pointer (some a)) V) : ∃ L, ρ a.block = some L ∧ a.spot = none ∧ V = .pointer (some ⟨L.b, L.d + a.off, none⟩) := by
  cases h with
  | flat h => simp [flat1] at h
  | ptr h => exact ⟨_, h, rfl, rfl⟩
theorem vrel_map {ρ : Map} {id : Nat} {V : Value} (h : vrel ρ (.map (some id)) V) : ∃ L, ρ id = some L ∧ V = .map (some L.b) := by
  cases h with
  | flat h => simp [flat1] at h
  | map h => exact ⟨_, h, rfl⟩
theorem vrel_agg {ρ : Map} {cs : Array Value} {V : Value} (h : vrel ρ (.agg cs) V) : ∃ cs', V = .agg cs' ∧ All2 (vrel ρ) cs.toList cs'.toList := by
  cases h with
  | flat h => simp [flat1] at h
  | agg h => exact ⟨_, rfl, h⟩
theorem vrel_tuple {ρ : Map} {cs : Array Value} {V : Value} (h : vrel ρ (.tuple cs) V) : ∃ cs', V = .tuple cs' ∧ All2 (vrel ρ) cs.toList cs'.toList := by
  cases h with
  | flat h => simp [flat1] at h
  | tuple h => exact ⟨_, rfl, h⟩
theorem vrel_func {ρ : Map} {fn : Fn} {f c : Array Value} {V : Value} (h : vrel ρ (.func fn f c) V) : ∃ f' c', V = .func fn f' c' ∧ All2 (vrel ρ) f.toList f'.toList ∧ All2 (vrel ρ) c.toList c'.toList := by
  cases h with
  | flat h => simp [flat1] at h
  | func h h' => exact ⟨_, _, rfl, h, h'⟩

/-! ### The heap -/

theorem wayF_eq : ∀ (n m k : Nat), k ≤ n → k ≤ m → wayF n k = wayF m k := by
  intro n
  induction n with
  | zero =>
    intro m k h1 h2
    obtain rfl : k = 0 := by omega
    cases m <;> simp [wayF]
  | succ n ih =>
    intro m k h1 h2
    cases m with
    | zero =>
      obtain rfl : k = 0 := by omega
      simp [wayF]
    | succ m =>
      simp only [wayF]
      by_cases hk : k = 0
      · simp [hk]
      · rw [if_neg hk, if_neg hk, ih m (k / 2) (by omega) (by omega), ih m (k / 2 - 1) (by omega) (by omega)]
theorem way_eq (k : Nat) : way k = if k = 0 then [] else if k % 2 = 1 then true :: way (k / 2) else false :: way (k / 2 - 1) := by
  unfold way
  cases k with
  | zero => rfl
  | succ k =>
    simp only [wayF, Nat.add_one_ne_zero, if_false]
    rw [wayF_eq k ((k + 1) / 2) ((k + 1) / 2) (by omega) (by omega), wayF_eq k ((k + 1) / 2 - 1) ((k + 1) / 2 - 1) (by omega) (by omega)]
theorem way_inj : ∀ {k j : Nat}, way k = way j → k = j := by
  intro k
  induction k using Nat.strongRecOn with
  | ind k ih =>
    intro j h
    rw [way_eq k, way_eq j] at h
    by_cases hk : k = 0
    · by_cases hj : j = 0
      · omega
      · rw [if_pos hk, if_neg hj] at h
        split at h <;> cases h
    · by_cases hj : j = 0
      · rw [if_neg hk, if_pos hj] at h
        split at h <;> cases h
      · rw [if_neg hk, if_neg hj] at h
        by_cases k2 : k % 2 = 1 <;> by_cases j2 : j % 2 = 1
        · rw [if_pos k2, if_pos j2] at h
          have := ih (k / 2) (by omega) (List.cons.inj h).2
          omega
        · rw [if_pos k2, if_neg j2] at h
          cases (List.cons.inj h).1
        · rw [if_neg k2, if_pos j2] at h
          cases (List.cons.inj h).1
        · rw [if_neg k2, if_neg j2] at h
          have := ih (k / 2 - 1) (by omega) (List.cons.inj h).2
          omega

theorem OTr.look_lay (p : List Bool) : ∀ (q : List Bool) (t : OTr) (u : SObj), (OTr.lay p u t).look q = if q = p then u else t.look q := by
  induction p with
  | nil =>
    intro q t u
    cases q with
    | nil => cases t <;> rfl
    | cons c q => cases t <;> cases c <;> rfl
  | cons b p ih =>
    intro q t u
    cases q with
    | nil => cases t <;> cases b <;> rfl
    | cons c q =>
      have h1 := fun t => ih q t u
      cases t <;> cases b <;> cases c <;> first | rfl | (refine (h1 _).trans ?_; by_cases e : q = p <;> simp [e] <;> rfl)
theorem OTr.get_set (t : OTr) (k j : Nat) (u : SObj) : (t.set k u).get j = if j = k then u else t.get j := by
  unfold OTr.get OTr.set
  rw [OTr.look_lay]
  by_cases e : j = k
  · rw [if_pos e, if_pos (by rw [e])]
  · rw [if_neg e, if_neg (fun h => e (way_inj h))]

section
variable {h : SHeap} {o : SObj} {i j : Nat}
theorem get_ge (hi : h.next ≤ i) : h.get i = .dead := by unfold SHeap.get; rw [if_neg (by omega)]
theorem get_push_new : (h.push o).get h.next = o := by
  unfold SHeap.get SHeap.push
  simp [OTr.get_set]
theorem get_push_old (hi : i < h.next) : (h.push o).get i = h.get i := by
  unfold SHeap.get SHeap.push
  simp only [hi, if_true]
  rw [if_pos (by omega), OTr.get_set, if_neg (by omega)]
theorem get_push (hne : i ≠ h.next) : (h.push o).get i = h.get i := by
  rcases Nat.lt_or_gt_of_ne hne with hi | hi
  · exact get_push_old hi
  · rw [get_ge (h := h) (by omega), get_ge (h := h.push o) (by simp [SHeap.push]; omega)]
theorem get_put_same (_hl : h.good) (hi : i < h.next) : (h.put i o).get i = o := by
  unfold SHeap.get SHeap.put
  simp only [hi, if_true]
  rw [OTr.get_set, if_pos rfl]
theorem get_put_ne (_hi : i < h.next) (hne : i ≠ j) : (h.put i o).get j = h.get j := by
  unfold SHeap.get SHeap.put
  simp only
  by_cases hj : j < h.next
  · simp only [hj, if_true]
    rw [OTr.get_set, if_neg (by omega)]
  · simp [hj]
theorem get_fl (f : Nat) : (h.fl f).get i = h.get i := rfl
theorem len_push (_hl : h.good) : (h.push o).good := rfl
theorem len_put (_hl : h.good) : (h.put i o).good := rfl
theorem get_lt (hn : h.get i ≠ .dead) : i < h.next := by
  rcases Nat.lt_or_ge i h.next with hi | hi
  · exact hi
  · exact absurd (get_ge hi) hn
end

/-! ### The slots -/

theorem Tr.look_lay (p : List Bool) : ∀ (q : List Bool) (t : Tr) (u : Value), (Tr.lay p u t).look q = if q = p then u else t.look q := by
  induction p with
  | nil =>
    intro q t u
    cases q with
    | nil => cases t <;> rfl
    | cons c q => cases t <;> cases c <;> rfl
  | cons b p ih =>
    intro q t u
    cases q with
    | nil => cases t <;> cases b <;> rfl
    | cons c q =>
      have h1 := fun t => ih q t u
      cases t <;> cases b <;> cases c <;> first | rfl | (refine (h1 _).trans ?_; by_cases e : q = p <;> simp [e] <;> rfl)
theorem Tr.get_set (t : Tr) (k j : Nat) (u : Value) : (t.set k u).get j = if j = k then u else t.get j := by
  unfold Tr.get Tr.set
  rw [Tr.look_lay]
  by_cases e : j = k
  · rw [if_pos e, if_pos (by rw [e])]
  · rw [if_neg e, if_neg (fun h => e (way_inj h))]

/-! ### Heap and world -/

def live : SObj → Prop
  | .dead => False
  | _ => True
/-- May it be written? -/
def wr : SObj → Prop
  | .row _ _ _ ro => ro = false
  | .map _ => True
  | .dead => False
theorem wr.live {o : SObj} (h : wr o) : live o := by cases o <;> simp_all [wr, Sx.live]

def objR (P : Program) (ρ : Map) (W : World) (i : Nat) : SObj → Prop
  | .dead => True
  | .row cs ty _ ro => ∃ L CS ty' fr, ρ i = some L ∧ W.heap[L.b]? = some (.cells CS ty' fr) ∧ (∀ (k : Nat) (v : Value), cs[k]? = some v → ∃ V, CS[L.d + k]? = some V ∧ vrel ρ v V) ∧
      (ro = false → fr = (0, 0) ∧ ty' = ty ∧ L.d + L.e = CS.size ∧ szOf P ty = some L.z)
  | .map es => ∃ L ES clk, ρ i = some L ∧ W.heap[L.b]? = some (.map ES clk) ∧ All2 (fun e E => vrel ρ e.1 E.key ∧ vrel ρ e.2 E.val) es ES.toList

structure Rel (P : Program) (ρ : Map) (h : SHeap) (W : World) : Prop where
  len : h.good
  dom : ∀ i, h.next ≤ i → ρ i = none
  glob : ∀ g, g < P.globals.size → ∃ L, ρ g = some L ∧ L.b = g ∧ L.d = 0
  obj : ∀ i, objR P ρ W i (h.get i)
  inj : ∀ i j L L', wr (h.get i) → live (h.get j) → i ≠ j → ρ i = some L → ρ j = some L' → L.b ≠ L'.b

/-- What is not the heap's own has not turned. -/
structure Fr (ρ : Map) (h : SHeap) (W W' : World) : Prop where
  os : W'.os = W.os
  tape : W'.tape = W.tape
  output : W'.output = W.output
  size : W.heap.size ≤ W'.heap.size
  blk : ∀ b, b < W.heap.size → (∀ i L, wr (h.get i) → h.floor ≤ i → ρ i = some L → L.b ≠ b) → W'.heap[b]? = W.heap[b]?

structure Nx (P : Program) (ρ : Map) (h : SHeap) (W : World) (ρ' : Map) (h' : SHeap) (W' : World) : Prop where
  ext : ∀ i L, ρ i = some L → ρ' i = some L
  old : ∀ i, i < h.next → ρ' i = ρ i
  rel : Rel P ρ' h' W'
  fr : Fr ρ h W W'
  nx : h.next ≤ h'.next
  floor : h'.floor = h.floor
  keep : ∀ i, i < h.next → i < h.floor → h'.get i = h.get i
  was : ∀ i, i < h.next → wr (h'.get i) → wr (h.get i)
  wasl : ∀ i, i < h.next → live (h'.get i) → live (h.get i)
  own : ∀ i L, h.next ≤ i → live (h'.get i) → ρ' i = some L → W.heap.size ≤ L.b ∨ ∃ j L0, wr (h.get j) ∧ h.floor ≤ j ∧ ρ j = some L0 ∧ L0.b = L.b

theorem objR.at_ {P : Program} {ρ : Map} {W : World} {i : Nat} {o : SObj} (h : objR P ρ W i o) (hl : live o) : ∃ L, ρ i = some L ∧ L.b < W.heap.size := by
  cases o with
  | dead => exact hl.elim
  | row cs ty g ro =>
    obtain ⟨L, CS, ty', fr, h1, h2, _⟩ := h
    exact ⟨L, h1, by
      rcases Nat.lt_or_ge L.b W.heap.size with hb | hb
      · exact hb
      · rw [Array.getElem?_eq_none hb] at h2; cases h2⟩
  | map es =>
    obtain ⟨L, ES, clk, h1, h2, _⟩ := h
    exact ⟨L, h1, by
      rcases Nat.lt_or_ge L.b W.heap.size with hb | hb
      · exact hb
      · rw [Array.getElem?_eq_none hb] at h2; cases h2⟩

theorem objR.mono {P : Program} {ρ ρ' : Map} {W W' : World} {i : Nat} {o : SObj} (hx : ∀ i L, ρ i = some L → ρ' i = some L) (hb : ∀ L, ρ i = some L → live o → W'.heap[L.b]? = W.heap[L.b]?) (h : objR P ρ W i o) : objR P ρ' W' i o := by
  cases o with
  | dead => trivial
  | row cs ty g ro =>
    obtain ⟨L, CS, ty', fr, h1, h2, h3, h4⟩ := h
    exact ⟨L, CS, ty', fr, hx _ _ h1, (hb L h1 trivial).trans h2, fun k v hv => let ⟨V, hV, hr⟩ := h3 k v hv; ⟨V, hV, hr.mono hx⟩, h4⟩
  | map es =>
    obtain ⟨L, ES, clk, h1, h2, h3⟩ := h
    exact ⟨L, ES, clk, hx _ _ h1, (hb L h1 trivial).trans h2, h3.mono fun a b h => ⟨h.1.mono hx, h.2.mono hx⟩⟩

theorem Fr.refl (ρ : Map) (h : SHeap) (W : World) : Fr ρ h W W := ⟨rfl, rfl, rfl, Nat.le_refl _, fun _ _ _ => rfl⟩

theorem Nx.refl {P : Program} {ρ : Map} {h : SHeap} {W : World} (hR : Rel P ρ h W) : Nx P ρ h W ρ h W :=
  ⟨fun _ _ h => h, fun _ _ => rfl, hR, Fr.refl _ _ _, Nat.le_refl _, rfl, fun _ _ _ => rfl, fun _ _ h => h, fun _ _ h => h, fun i L hi hw _ => by rw [get_ge hi] at hw; exact hw.elim⟩

theorem Nx.trans {P : Program} {ρ ρ' ρ'' : Map} {h h' h'' : SHeap} {W W' W'' : World} (hR : Rel P ρ h W) (a : Nx P ρ h W ρ' h' W') (b : Nx P ρ' h' W' ρ'' h'' W'') : Nx P ρ h W ρ'' h'' W'' := by
  have key : ∀ i L, wr (h'.get i) → h'.floor ≤ i → ρ' i = some L → W.heap.size ≤ L.b ∨ ∃ j L0, wr (h.get j) ∧ h.floor ≤ j ∧ ρ j = some L0 ∧ L0.b = L.b := by
    intro i L hw hf hL
    rcases Nat.lt_or_ge i h.next with hi | hi
    · have hw0 := a.was i hi hw
      obtain ⟨L0, hL0, _⟩ := (hR.obj i).at_ hw0.live
      have := a.ext i L0 hL0
      rw [hL] at this
      cases this
      exact .inr ⟨i, L, hw0, by rw [← a.floor]; exact hf, hL0, rfl⟩
    · exact a.own i L hi hw.live hL
  refine ⟨fun i L hi => b.ext _ _ (a.ext _ _ hi), fun i hi => (b.old i (Nat.lt_of_lt_of_le hi a.nx)).trans (a.old i hi), b.rel, ⟨b.fr.os.trans a.fr.os, b.fr.tape.trans a.fr.tape, b.fr.output.trans a.fr.output, Nat.le_trans a.fr.size b.fr.size, ?_⟩, Nat.le_trans a.nx b.nx, b.floor.trans a.floor, ?_, ?_, ?_, ?_⟩
  · intro k hk hno
    rw [b.fr.blk k (Nat.lt_of_lt_of_le hk a.fr.size) ?_, a.fr.blk k hk hno]
    intro i L hw hf hL e
    rcases key i L hw hf hL with hs | ⟨j, L0, hwj, hfj, hLj, ej⟩
    · omega
    · exact hno j L0 hwj hfj hLj (ej.trans e)
  · intro i hi hf
    rw [b.keep i (Nat.lt_of_lt_of_le hi a.nx) (by rw [a.floor]; exact hf), a.keep i hi hf]
  · intro i hi hw
    exact a.was i hi (b.was i (Nat.lt_of_lt_of_le hi a.nx) hw)
  · intro i hi hw
    exact a.wasl i hi (b.wasl i (Nat.lt_of_lt_of_le hi a.nx) hw)
  · intro i L hi hw hL
    rcases Nat.lt_or_ge i h'.next with hi' | hi'
    · have hw' := b.wasl i hi' hw
      obtain ⟨L0, hL0, _⟩ := (a.rel.obj i).at_ hw'
      have := b.ext i L0 hL0
      rw [hL] at this
      cases this
      exact a.own i L hi hw' hL0
    · rcases b.own i L hi' hw hL with hs | ⟨j, L0, hwj, hfj, hLj, ej⟩
      · exact .inl (Nat.le_trans a.fr.size hs)
      · rcases key j L0 hwj hfj hLj with hs | ⟨j2, L2, h1, h2, h3, h4⟩
        · exact .inl (by omega)
        · exact .inr ⟨j2, L2, h1, h2, h3, h4.trans ej⟩

end Go.Sx
