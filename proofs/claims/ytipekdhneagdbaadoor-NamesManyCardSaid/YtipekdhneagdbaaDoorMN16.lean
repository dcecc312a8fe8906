/- Part 16 of what the claim leans on: 14 texts laid one behind another. -/
import Derived.Test.YtipekdhneagdbaaDoorMN15
import Derived.WalkKit
import Derived.Carry
import Derived.ChangeSlices
namespace Go.Proofs.YtipekdhneagdbaaDoor
open Go Go.Sx Go.ChangeShapes Go.WideShapes Go.ChangeAt Go.RowKit
set_option maxRecDepth 100000
set_option linter.unusedSimpArgs false
set_option linter.unusedVariables false
theorem Jee : laidOutB Tryd.prog = true := by kernel_rfl
theorem J7M {H : Type} {enc : TypeId × Value → H} {W W' : World} (hb : Below W.heap.size W W') {sp : Nat → Bool} : ∀ (ts : List TypeId) (vs : List Value) (ds : List (DataW H)) (ps : List MemPlace),
  (ts.all fun t => Tryd.prog.readableRec t && decide (t < Tryd.prog.types.size)) = true → DataW.TrodAll enc Tryd.prog W 0 (fun _ => true) true ts vs ds ps → (∀ p ∈ ps, p.block < W.heap.size) → (∀ p ∈ ps, sp p.block = true) → DataW.TrodAll enc Tryd.prog W' 0 sp true ts vs ds ps := by
 intro ts
 induction ts with
 | nil =>
  intro vs ds ps _ h _ _
  cases vs <;> cases ds <;> first | exact h | exact h.elim
 | cons t ts ih =>
  intro vs ds ps ht h hlt hs
  cases vs with
  | nil => cases ds <;> exact h.elim
  | cons v vs =>
   cases ds with
   | nil => exact h.elim
   | cons d ds =>
    obtain ⟨p, q, h1, h2, rfl⟩ := h
    simp only [List.all_cons, Bool.and_eq_true, decide_eq_true_eq] at ht
    exact ⟨p, q, WideElems.Trod_stays Jee ht.1.1 ht.1.2 h1 (fun x hx => hb.same (hlt x (List.mem_append_left _ hx))) (fun x hx => hs x (List.mem_append_left _ hx)),
     ih vs ds q (by simpa using ht.2) h2 (fun x hx => hlt x (List.mem_append_right _ hx)) (fun x hx => hs x (List.mem_append_right _ hx)), rfl⟩
end Go.Proofs.YtipekdhneagdbaaDoor
namespace Go.Proofs.YtipekdhneagdbaaDoor
open Go Go.Sx
set_option maxRecDepth 100000
set_option linter.unusedSimpArgs false
set_option linter.unusedVariables false
def J5z (a b : RowN) : Bool := a.kind == b.kind && (a.name == b.name && (a.ends == b.ends && (a.n == b.n && a.kids == b.kids)))
section
variable {x y : Operand}
end
theorem Jcs {a b : ByteArray} : (a == b) = true ↔ a = b := by
 obtain ⟨a⟩ := a
 obtain ⟨b⟩ := b
 show (a == b) = true ↔ _
 rw [beq_iff_eq, ByteArray.mk.injEq]
theorem J6E {a b : RowN} : J5z a b = true ↔ a = b := by
 obtain ⟨a1, a2, a3, a4, a5⟩ := a
 obtain ⟨b1, b2, b3, b4, b5⟩ := b
 unfold J5z
 simp only [Bool.and_eq_true, beq_iff_eq, Jcs, RowN.mk.injEq]
theorem JfF {lo : Nat} {h : SHeap} {v : Value} {n w : Nat} {cs : List Value} (hc : J0p lo h v n w cs) (h' : SHeap) : lenS Tryd.prog h' 28 v = some (iv (n : Int)) := J0p.len hc Tryd.underlying28
theorem JfT {lo : Nat} {h : SHeap} {v : Value} {n w : Nat} {cs : List Value} (hc : J0p lo h v n w cs) (h' : SHeap) : lenS Tryd.prog h' 27 v = some (iv (n : Int)) := J0p.len hc Tryd.underlying27
theorem JfC {lo : Nat} {h : SHeap} {v : Value} {n w : Nat} {cs : List Value} (hc : J0p lo h v n w cs) (h' : SHeap) : lenS Tryd.prog h' 26 v = some (iv (n : Int)) := J0p.len hc Tryd.underlying26
theorem JfA {lo : Nat} {h : SHeap} {v : Value} {n w : Nat} {cs : List Value} (hc : J0p lo h v n w cs) (h' : SHeap) : lenS Tryd.prog h' 22 v = some (iv (n : Int)) := J0p.len hc Tryd.underlying22
section
variable {call : J0r} {N : Nat} {h : SHeap}
end
section
variable {call : J0r} {N : Nat} {h : SHeap}
end
theorem Jhw {a b c d e f g i : Value} {ty : TypeId} {x y : Bool} : ld1 0 (.row [a, b, c, d, e, f, g, i] ty x y) = some a ∧ ld1 1 (.row [a, b, c, d, e, f, g, i] ty x y) = some b ∧ ld1 2 (.row [a, b, c, d, e, f, g, i] ty x y) = some c ∧ ld1 3 (.row [a, b, c, d, e, f, g, i] ty x y) = some d ∧ ld1 4 (.row [a, b, c, d, e, f, g, i] ty x y) = some e ∧ ld1 5 (.row [a, b, c, d, e, f, g, i] ty x y) = some f ∧ ld1 6 (.row [a, b, c, d, e, f, g, i] ty x y) = some g ∧ ld1 7 (.row [a, b, c, d, e, f, g, i] ty x y) = some i := ⟨rfl, rfl, rfl, rfl, rfl, rfl, rfl, rfl⟩
section
variable {n N : Nat}
end
theorem J53 : ∀ (l : List RowN) (k : Nat), (l.flatMap J0e).take (k * 5) = (l.take k).flatMap J0e
 | l, 0 => by simp
 | [], k + 1 => by simp
 | r :: l, k + 1 => by
  rw [List.flatMap_cons, List.take_succ_cons, List.flatMap_cons, ← J53 l k, show (k + 1) * 5 = k * 5 + 5 by omega]
  rfl
theorem Jgo {L : List RowN} {i : Nat} {x : RowN} (hi : i < L.length) : Go.Sx.lay (L.flatMap J0e) (i * 5) (J0e x) = (L.set i x).flatMap J0e := by
 have h5 : (J0e x).length = 5 := rfl
 rw [List.set_eq_take_append_cons_drop, if_pos hi, List.flatMap_append, List.flatMap_cons, ← J53, ← J3k]
 simp only [Go.Sx.lay, h5]
 rw [show (i + 1) * 5 = i * 5 + 5 by omega, List.append_assoc]
abbrev zRow : RowN := ⟨0, ByteArray.empty, 0, 0, 0⟩
abbrev JcY : ByteArray := ⟨#[108, 101, 110, 116]⟩
def mark (i : Nat) : RowN := ⟨-7, JcY, 0, 0, i⟩
theorem JaU {h : SHeap} {id i off : Nat} {L : List RowN} {x : RowN} {ty : TypeId} {g : Bool} (ho : off = i * 5) (hg : h.get id = .row (L.flatMap J0e) ty g false) (hi : i < L.length) (hf : h.floor ≤ id) : J0K Tryd.prog h 46 (.pointer (some ⟨id, off, none⟩)) (rowV x) = some (h.put id (.row ((L.set i x).flatMap J0e) ty g false)) := by
 subst ho
 have hc : (rowV x).cells = (J0e x).toArray := rfl
 have h5 : (J0e x).length = 5 := rfl
 have hone : (J0e x).all one = true := rfl
 have hl := J0N L
 simp only [J0K, hc, sz46, J1q, hg]
 rw [if_pos (by simp [h5]), if_pos (by simp only [h5, hone, hl]; simp; omega), Jgo hi]
theorem J9X : J2Q Tryd.prog (match Tryd.prog.underlying 46 with | some (.struct fs) => fs.toList | _ => []) = some [(0, 1), (1, 1), (2, 1), (3, 1), (4, 1)] := by kernel_rfl
section
variable {call : J0r} {N : Nat} {h : SHeap}
end
section
variable {call : J0r} {N : Nat} {h : SHeap}
end
theorem Jg8 {l : List RowN} (h : (resN l).1.1 ≠ 0) : outN l = (ByteArray.empty, sZ) := by unfold outN; rw [if_pos h]
theorem JeO {l : List RowN} (h : (resN l).1.1 = 0) : outN l = (J52 l, (resN l).2) := by unfold outN; rw [if_neg (by rw [h]; simp)]
section
variable {n : Nat} {h : SHeap}
end
theorem Jlt {H : SHeap} {cs : List Value} {e p : Int} (hl : cs.length = 8) (ho : cs.all one = true) (hf : H.floor ≤ H.next) :
  ∃ H' : SHeap × SHeap, J0K Tryd.prog ((H.push (.row [.string ByteArray.empty, .slice none 0 0, .slice none 0 0, .slice none 0 0, .slice none 0 0, .slice none 0 0, .slice none 0 0, iv 0] 30 false false)).push (.row [iv 0, iv 0] 33 false false)) 30 (.pointer (some ⟨H.next, 0, none⟩)) (.agg cs.toArray) = some (H'.1) ∧ J0K Tryd.prog H'.1 33 (.pointer (some ⟨H.next + 1, 0, none⟩)) (J2k e p) = some H'.2 ∧
   Out2 H.next H'.2 cs e p ∧ H'.2.next = H.next + 2 ∧ H'.2.floor = H.floor ∧ ∀ i, i < H.next → H'.2.get i = H.get i := by
 have ga := J4c (h := H) (o := .row [.string ByteArray.empty, .slice none 0 0, .slice none 0 0, .slice none 0 0, .slice none 0 0, .slice none 0 0, .slice none 0 0, iv 0] 30 false false) (o' := .row [iv 0, iv 0] 33 false false)
 have gb := J48 (h := H) (o := .row [.string ByteArray.empty, .slice none 0 0, .slice none 0 0, .slice none 0 0, .slice none 0 0, .slice none 0 0, .slice none 0 0, iv 0] 30 false false) (o' := .row [iv 0, iv 0] 33 false false)
 have gold : ∀ i, i < H.next → ((H.push (.row [.string ByteArray.empty, .slice none 0 0, .slice none 0 0, .slice none 0 0, .slice none 0 0, .slice none 0 0, .slice none 0 0, iv 0] 30 false false)).push (.row [iv 0, iv 0] 33 false false)).get i = H.get i := fun i hi => by rw [J06 (by show i < H.next + 1; omega), J06 hi]
 have hnx : ((H.push (.row [.string ByteArray.empty, .slice none 0 0, .slice none 0 0, .slice none 0 0, .slice none 0 0, .slice none 0 0, .slice none 0 0, iv 0] 30 false false)).push (.row [iv 0, iv 0] 33 false false)).next = H.next + 2 := rfl
 have hfx : ((H.push (.row [.string ByteArray.empty, .slice none 0 0, .slice none 0 0, .slice none 0 0, .slice none 0 0, .slice none 0 0, .slice none 0 0, iv 0] 30 false false)).push (.row [iv 0, iv 0] 33 false false)).floor = H.floor := rfl
 generalize (H.push (.row [.string ByteArray.empty, .slice none 0 0, .slice none 0 0, .slice none 0 0, .slice none 0 0, .slice none 0 0, .slice none 0 0, iv 0] 30 false false)).push (.row [iv 0, iv 0] 33 false false) = G at *
 obtain ⟨H', s1, s2, r1, r2, r3, r4⟩ := J4J (a := H.next) (H := G) ⟨ga, gb⟩ rfl (by omega) (by omega) (cs' := cs) hl ho (e' := e) (p' := p)
 exact ⟨⟨_, H'⟩, s1, s2, r1, by show H'.next = _; omega, by show H'.floor = _; omega, fun i hi => by show H'.get i = _; rw [r4 i (by omega) (by omega), gold i hi]⟩
theorem all8 {lo : Nat} {h : SHeap} {nm : ByteArray} {s : StN} {vr vq vv vt vu vo : Value} (h1 : J3P lo h vr s.rows) (h2 : J0p lo h vq s.queues.length 2 (J3S s.queues)) (h3 : J0p lo h vv s.vars.length 1 (strs s.vars)) (h4 : J0p lo h vt s.tags.length 1 (strs s.tags)) (h5 : J1S lo h vu s.rules) (h6 : J1S lo h vo s.on) :
  ([.string nm, vr, vq, vv, vt, vu, vo, iv s.miss] : List Value).all one = true := by
 simp only [List.all_cons, List.all_nil, h1.2.one, h2.one, h3.one, h4.one, J0p.one h5, J0p.one h6, J5J, J5K, Bool.and_self]
section
variable {n N : Nat}
end
def JkW (s : StN) (k n : Int) (nm : ByteArray) : Prop :=
 0 ≤ n ∧ ((k = 1 ∧ ∃ b, s.queues[n.toNat]? = some (nm, b)) ∨ (k = 2 ∧ s.vars[n.toNat]? = some nm) ∨ (k = 3 ∧ s.tags[n.toNat]? = some nm) ∨ (k = 4 ∧ ∃ ru : Nat, s.rules[n.toNat]? = some ((ru : Int) + 1) ∧ ∃ y : RowN, s.rows[ru]? = some y ∧ y.name = nm))
structure UpS (s s' : StN) : Prop where
 q : ∀ (i : Nat) x, s.queues[i]? = some x → s'.queues[i]? = some x
 v : ∀ (i : Nat) x, s.vars[i]? = some x → s'.vars[i]? = some x
 t : ∀ (i : Nat) x, s.tags[i]? = some x → s'.tags[i]? = some x
 u : ∀ (i : Nat) x, s.rules[i]? = some x → s'.rules[i]? = some x
 r : ∀ (i : Nat) (y : RowN), s.rows[i]? = some y → ∃ y' : RowN, s'.rows[i]? = some y' ∧ y'.name = y.name
theorem JkW.up {s s' : StN} {k n : Int} {nm : ByteArray} (h : JkW s k n nm) (hu : UpS s s') : JkW s' k n nm := by
 refine ⟨h.1, ?_⟩
 rcases h.2 with ⟨h1, b, h2⟩ | ⟨h1, h2⟩ | ⟨h1, h2⟩ | ⟨h1, ru, h2, y, h3, h4⟩
 ·exact .inl ⟨h1, b, hu.q _ _ h2⟩
 ·exact .inr (.inl ⟨h1, hu.v _ _ h2⟩)
 ·exact .inr (.inr (.inl ⟨h1, hu.t _ _ h2⟩))
 ·obtain ⟨y', h5, h6⟩ := hu.r _ _ h3
  exact .inr (.inr (.inr ⟨h1, ru, hu.u _ _ h2, y', h5, h6.trans h4⟩))
def Jkw (k : Int) : Int := J1O k + J0j k
structure ToldM (l : List RowN) (at_ : Nat) (s : StN) : Prop where
 rows : ∀ (i : Nat) (x : RowN), i < at_ → s.rows[i]? = some x → (Jkw x.kind = 0 → l[i]? = some x) ∧ (Jkw x.kind ≠ 0 → JkW s (Jkw x.kind) x.n x.name)
 things : ∀ t ∈ s.things, JkW s t.kind t.num t.name
theorem ToldM.up {l : List RowN} {at_ : Nat} {s s' : StN} (h : ToldM l at_ s) (hu : UpS s s') (hr : ∀ i, i < at_ → s'.rows[i]? = s.rows[i]?) (ht : ∀ t ∈ s'.things, t ∈ s.things ∨ JkW s' t.kind t.num t.name) : ToldM l at_ s' where
 rows := fun i x hi hx => by
  rw [hr i hi] at hx
  obtain ⟨h1, h2⟩ := h.rows i x hi hx
  exact ⟨h1, fun h3 => (h2 h3).up hu⟩
 things := fun t h1 => by
  rcases ht t h1 with h2 | h2
  ·exact (h.things t h2).up hu
  ·exact h2
theorem Jke {a b : ByteArray} (h : a ≠ b) : (a == b) = false := by
 cases h9 : (a == b) with
 | true => exact absurd (J3o h9) h
 | false => rfl
section
variable {f : ByteArray → ByteArray} {l m : List RowN}
theorem Jkf {a : ByteArray} : ∀ th : List ThN, (∀ t ∈ th, a ≠ t.name) → J30 th a = none
 | [], _ => rfl
 | t :: th, h => by
  unfold J30
  rw [List.find?_cons, show (a == t.name) = false from Jke (h t (List.mem_cons_self ..))]
  exact Jkf th fun u hu => h u (List.mem_cons_of_mem _ hu)
end
theorem sz5 : szOf Tryd.prog 5 = some 1 := by kernel_rfl
theorem Jnh : J1w Tryd.prog 5 = some (.int .u8 0) := by kernel_rfl
theorem Jnq {h : SHeap} {a b c d : Int} : J0Q Tryd.prog h 101 4 [(0, .int .u8 a), (1, .int .u8 b), (2, .int .u8 c), (3, .int .u8 d)] = some (.slice (some ⟨h.next, 0, none⟩) 4 4, h.push (.row [.int .u8 a, .int .u8 b, .int .u8 c, .int .u8 d] 5 false false)) := by
 have hc : ∀ x : Int, (Value.int .u8 x).cells = #[.int .u8 x] := fun _ => rfl
 simp [J0Q, Tryd.underlying101, sz5, Jnh, flat, J1i, hc, J5k, J3e, Go.Sx.lay]
theorem Jn1 {h : SHeap} {n : Int} : Jbc Tryd.prog h 3 5 (iv n) = some (.int .u8 (IntKind.u8.wrap n)) := by
 simp only [Jbc, Tryd.underlying3, Tryd.underlying5]
def numB (c : Int) (n : Nat) : ByteArray := ⟨#[UInt8.ofNat c.toNat, UInt8.ofNat (48 + n / 100), UInt8.ofNat (48 + n / 10 % 10), UInt8.ofNat (48 + n % 10)]⟩
theorem JmG {n : Int} (h : 0 ≤ n) (h2 : n < 256) : IntKind.u8.wrap n = n := by
 simp [IntKind.wrap, IntKind.bits, IntKind.signed]
 omega
theorem JmB {h : SHeap} {a : Int} {b c d : Nat} : Jbc Tryd.prog (h.push (.row [.int .u8 a, .int .u8 b, .int .u8 c, .int .u8 d] 5 false false)) 101 9 (.slice (some ⟨h.next, 0, none⟩) 4 4) = some (.string ⟨#[UInt8.ofNat a.toNat, UInt8.ofNat b, UInt8.ofNat c, UInt8.ofNat d]⟩) := by
 have hs : J16 (h.push (.row [.int .u8 a, .int .u8 b, .int .u8 c, .int .u8 d] 5 false false)) 1 4 (.slice (some ⟨h.next, 0, none⟩) 4 4) = some [.int .u8 a, .int .u8 b, .int .u8 c, .int .u8 d] := by
  simp [J16, J0h, cut]
 simp only [Jbc, Tryd.underlying101, Tryd.underlying9, Tryd.underlying5, hs, J5f]
 rfl
section
variable {call : J0r} {N n : Nat} {h : SHeap}
set_option maxHeartbeats 4000000 in
theorem Jlc {c : Int} {k : Nat} (hk : k < 1000) : ∃ h', J0L Tryd.prog call N 29 [.int .u8 c, iv k] h = some (.string (numB c k), h') ∧ ∀ i, i < h.next → h'.get i = h.get i := by
 refine J1N (R := fun h' => ∀ i, i < h.next → h'.get i = h.get i) Tryd.func29 rfl (by simp [Tryd.f29]) ?_
 have hr : Tryd.f29.results.toList = [.tmp 4] := rfl
 have b1 := JjO (P := Tryd.prog) (t := 3) (x := .tmp 6) (y := .const (.int .i64 100)) (k := .i64) (a := (k : Int)) (show (100 : Int) ≠ 0 by decide)
 have b2 := JjO (P := Tryd.prog) (t := 3) (x := .tmp 10) (y := .const (.int .i64 10)) (k := .i64) (a := (k : Int)) (show (10 : Int) ≠ 0 by decide)
 have b3 := Jjy (P := Tryd.prog) (t := 3) (x := .tmp 11) (y := .const (.int .i64 10)) (k := .i64) (a := ((k / 10 : Nat) : Int)) (show (10 : Int) ≠ 0 by decide)
 have b4 := Jjy (P := Tryd.prog) (t := 3) (x := .tmp 15) (y := .const (.int .i64 10)) (k := .i64) (a := (k : Int)) (show (10 : Int) ≠ 0 by decide)
 have t1 : (k : Int).tdiv 100 = ((k / 100 : Nat) : Int) := by rw [Int.tdiv_eq_ediv_of_nonneg (by omega)]; omega
 have t2 : (k : Int).tdiv 10 = ((k / 10 : Nat) : Int) := by rw [Int.tdiv_eq_ediv_of_nonneg (by omega)]; omega
 have t3 : ((k / 10 : Nat) : Int).tmod 10 = ((k / 10 % 10 : Nat) : Int) := by rw [Int.tmod_eq_emod_of_nonneg (by omega)]; omega
 have t4 : (k : Int).tmod 10 = ((k % 10 : Nat) : Int) := by rw [Int.tmod_eq_emod_of_nonneg (by omega)]; omega
 rw [t1, J0s (by omega) (by omega)] at b1
 rw [t2, J0s (by omega) (by omega)] at b2
 rw [t3] at b3
 rw [t4] at b4
 have w1 : IntKind.i64.wrap (48 + ((k / 100 : Nat) : Int)) = ((48 + k / 100 : Nat) : Int) := by rw [J0s (by omega) (by omega)]; omega
 have w2 : IntKind.i64.wrap (48 + ((k / 10 % 10 : Nat) : Int)) = ((48 + k / 10 % 10 : Nat) : Int) := by rw [J0s (by omega) (by omega)]; omega
 have w3 : IntKind.i64.wrap (48 + ((k % 10 : Nat) : Int)) = ((48 + k % 10 : Nat) : Int) := by rw [J0s (by omega) (by omega)]; omega
 have u1 : IntKind.u8.wrap ((48 + k / 100 : Nat) : Int) = ((48 + k / 100 : Nat) : Int) := JmG (by omega) (by omega)
 have u2 : IntKind.u8.wrap ((48 + k / 10 % 10 : Nat) : Int) = ((48 + k / 10 % 10 : Nat) : Int) := JmG (by omega) (by omega)
 have u3 : IntKind.u8.wrap ((48 + k % 10 : Nat) : Int) = ((48 + k % 10 : Nat) : Int) := JmG (by omega) (by omega)
 have hcv := JmB (h := h) (a := c) (b := 48 + k / 100) (c := 48 + k / 10 % 10) (d := 48 + k % 10)
 simp only [evC, seval, ↓evP, b1, b2, b3, b4, w1, w2, w3, Jn1, u1, u2, u3, Jnq, hcv, hr]
 exact ⟨rfl, fun i hi => J06 hi⟩
theorem Jkm {c : Int} {k : Nat} (hk : k < 1000) (hn : 0 < n) : J0T n 29 [.int .u8 c, iv k] h = some (.string (numB c k), h) := by
 obtain ⟨n, rfl⟩ : ∃ j, n = j + 1 := ⟨n - 1, by omega⟩
 exact J4r (J13 ⟨rfl, rfl, rfl⟩) rfl (Jlc hk)
end
theorem JlN {a b : Nat} (ha : a < 256) (hb : b < 256) (h : UInt8.ofNat a = UInt8.ofNat b) : a = b := by
 have := congrArg UInt8.toNat h
 simpa [UInt8.toNat_ofNat', Nat.mod_eq_of_lt ha, Nat.mod_eq_of_lt hb] using this
theorem JlV {c : Int} {a b : Nat} (ha : a < 1000) (hb : b < 1000) (h : numB c a = numB c b) : a = b := by
 unfold numB at h
 simp only [ByteArray.mk.injEq, Array.mk.injEq, List.cons.injEq, and_true, true_and] at h
 obtain ⟨h1, h2, h3⟩ := h
 have e1 := JlN (by omega) (by omega) h1
 have e2 := JlN (by omega) (by omega) h2
 have e3 := JlN (by omega) (by omega) h3
 omega
section
variable {α β : Type} {f : α → List β} {w : Nat}
theorem Jk7 (hf : ∀ x, (f x).length = w) : ∀ l : List α, (l.flatMap f).length = l.length * w
 | [] => by simp
 | x :: l => by rw [List.flatMap_cons, List.length_append, Jk7 hf l, hf, List.length_cons, Nat.succ_mul]; omega
theorem JlZ (hf : ∀ x, (f x).length = w) : ∀ {l : List α} {i j : Nat} {x : α}, l[i]? = some x → j < w → (l.flatMap f)[i * w + j]? = (f x)[j]?
 | [], i, j, x, h, _ => by simp at h
 | y :: l, 0, j, x, h, hj => by
  cases h
  rw [List.flatMap_cons, Nat.zero_mul, Nat.zero_add, List.getElem?_append_left (by rw [hf]; exact hj)]
 | y :: l, i + 1, j, x, h, hj => by
  have h' : l[i]? = some x := h
  rw [List.flatMap_cons, List.getElem?_append_right (by rw [hf, Nat.succ_mul]; omega), hf, ← JlZ hf h' hj]
  congr 1
  rw [Nat.succ_mul]
  omega
end
def rowK (kind : Int) (nm : ByteArray) (kids : Int) : RowN := ⟨kind, nm, 0, 0, kids⟩
def itR (i : Nat) : List RowN := [rowK 7 (numB 114 i) 1, rowK 11 ByteArray.empty 0]
def itT (i : Nat) : List RowN := [rowK 5 (numB 116 i) 1, rowK 29 ByteArray.empty 0]
def itV (i : Nat) : List RowN := [rowK 4 (numB 118 i) 3, rowK 29 ByteArray.empty 0, rowK 29 ByteArray.empty 0, rowK 29 ByteArray.empty 0]
def itQ (i : Nat) : List RowN := [rowK 2 (numB 113 i) 0]
abbrev pB : ByteArray := ⟨#[112]⟩
def Jk5 (q v t r : Nat) : List RowN := rowK 1 pB ((q + v + t + r : Nat) : Int) :: ((List.range r).flatMap itR ++ ((List.range t).flatMap itT ++ ((List.range v).flatMap itV ++ (List.range q).flatMap itQ)))
section
variable {q v t r : Nat}
theorem JkN : (Jk5 q v t r).length = 1 + 2 * r + 2 * t + 4 * v + q := by
 unfold Jk5
 rw [List.length_cons, List.length_append, List.length_append, List.length_append, Jk7 (w := 2) (fun _ => rfl), Jk7 (w := 2) (fun _ => rfl), Jk7 (w := 4) (fun _ => rfl), Jk7 (w := 1) (fun _ => rfl)]
 simp only [List.length_range]
 omega
theorem JkL {n i : Nat} (h : i < n) : (List.range n)[i]? = some i := by simp [h]
theorem JlU : (Jk5 q v t r)[0]? = some (rowK 1 pB ((q + v + t + r : Nat) : Int)) := rfl
theorem JkG {i j : Nat} (hi : i < r) (hj : j < 2) : (Jk5 q v t r)[1 + 2 * i + j]? = (itR i)[j]? := by
 unfold Jk5
 rw [show 1 + 2 * i + j = (i * 2 + j) + 1 by omega, List.getElem?_cons_succ, List.getElem?_append_left (by rw [Jk7 (w := 2) (fun _ => rfl), List.length_range]; omega)]
 exact JlZ (w := 2) (f := itR) (fun _ => rfl) (JkL hi) hj
theorem JkC {i j : Nat} (hi : i < t) (hj : j < 2) : (Jk5 q v t r)[1 + 2 * r + 2 * i + j]? = (itT i)[j]? := by
 have hl : ((List.range r).flatMap itR).length = r * 2 := by rw [Jk7 (w := 2) (fun _ => rfl), List.length_range]
 unfold Jk5
 rw [show 1 + 2 * r + 2 * i + j = (r * 2 + (i * 2 + j)) + 1 by omega, List.getElem?_cons_succ, List.getElem?_append_right (by omega), hl, Nat.add_sub_cancel_left, List.getElem?_append_left (by rw [Jk7 (w := 2) (fun _ => rfl), List.length_range]; omega)]
 exact JlZ (w := 2) (f := itT) (fun _ => rfl) (JkL hi) hj
theorem Jkt {i j : Nat} (hi : i < v) (hj : j < 4) : (Jk5 q v t r)[1 + 2 * r + 2 * t + 4 * i + j]? = (itV i)[j]? := by
 have hl : ((List.range r).flatMap itR).length = r * 2 := by rw [Jk7 (w := 2) (fun _ => rfl), List.length_range]
 have hl2 : ((List.range t).flatMap itT).length = t * 2 := by rw [Jk7 (w := 2) (fun _ => rfl), List.length_range]
 unfold Jk5
 rw [show 1 + 2 * r + 2 * t + 4 * i + j = (r * 2 + (t * 2 + (i * 4 + j))) + 1 by omega, List.getElem?_cons_succ, List.getElem?_append_right (by omega), hl, Nat.add_sub_cancel_left, List.getElem?_append_right (by omega), hl2, Nat.add_sub_cancel_left, List.getElem?_append_left (by rw [Jk7 (w := 4) (fun _ => rfl), List.length_range]; omega)]
 exact JlZ (w := 4) (f := itV) (fun _ => rfl) (JkL hi) hj
theorem Jlh {i : Nat} (hi : i < q) : (Jk5 q v t r)[1 + 2 * r + 2 * t + 4 * v + i]? = some (rowK 2 (numB 113 i) 0) := by
 have hl : ((List.range r).flatMap itR).length = r * 2 := by rw [Jk7 (w := 2) (fun _ => rfl), List.length_range]
 have hl2 : ((List.range t).flatMap itT).length = t * 2 := by rw [Jk7 (w := 2) (fun _ => rfl), List.length_range]
 have hl3 : ((List.range v).flatMap itV).length = v * 4 := by rw [Jk7 (w := 4) (fun _ => rfl), List.length_range]
 unfold Jk5
 rw [show 1 + 2 * r + 2 * t + 4 * v + i = (r * 2 + (t * 2 + (v * 4 + (i * 1 + 0)))) + 1 by omega, List.getElem?_cons_succ, List.getElem?_append_right (by omega), hl, Nat.add_sub_cancel_left, List.getElem?_append_right (by omega), hl2, Nat.add_sub_cancel_left, List.getElem?_append_right (by omega), hl3, Nat.add_sub_cancel_left]
 rw [JlZ (w := 1) (fun _ => rfl) (JkL hi) (by decide)]
 rfl
end
theorem Jmt : ((List.range 70).all fun i => J09 (numB 114 i) && J09 (numB 116 i) && J09 (numB 118 i) && J09 (numB 113 i)) = true := by kernel_rfl
theorem Jl7 {i : Nat} (h : i < 70) : J09 (numB 114 i) = true ∧ J09 (numB 116 i) = true ∧ J09 (numB 118 i) = true ∧ J09 (numB 113 i) = true := by
 have := List.all_eq_true.1 Jmt i (List.mem_range.2 h)
 simp only [Bool.and_eq_true] at this
 exact ⟨this.1.1.1, this.1.1.2, this.1.2, this.2⟩
theorem Jku : fitN J09 (rowK 11 ByteArray.empty 0) = true ∧ fitN J09 (rowK 29 ByteArray.empty 0) = true := ⟨by kernel_rfl, by kernel_rfl⟩
theorem Jle {k : Int} {nm : ByteArray} {kids : Int} (hn : J09 nm = true) (hk : J3l k = true) (h1 : decide (kids ≥ J1U k) = true) (h2 : (decide (J1r k < 0) || decide (kids ≤ J1r k)) = true) : fitN J09 (rowK k nm kids) = true := by
 unfold fitN rowK
 simp only [hn, hk, h1, h2]
 rfl
section
variable {l : List RowN} {p m : Nat}
theorem Jkr {k : Int} {what : Int} (hx : l[p]? = some (rowK k ByteArray.empty 0)) (hf : fitN J09 (rowK k ByteArray.empty 0) = true) (hs : J1l what k = true) : rowN J09 l (m + 1) p what = (p + 1, true) := by
 unfold rowN
 rw [hx]
 simp only
 rw [if_pos (by rw [hf]; simpa [rowK] using hs)]
 rfl
theorem Jny {nm : ByteArray} (hx : l[p]? = some (rowK 2 nm 0)) (hn : J09 nm = true) : rowN J09 l (m + 1) p 0 = (p + 1, true) := by
 unfold rowN
 rw [hx]
 simp only
 rw [if_pos (by rw [Jle hn rfl rfl rfl]; rfl)]
 rfl
theorem Jnz {nm : ByteArray} (hx : l[p]? = some (rowK 7 nm 1)) (h1 : l[p + 1]? = some (rowK 11 ByteArray.empty 0)) (hn : J09 nm = true) : rowN J09 l (m + 2) p 0 = (p + 2, true) := by
 have h2 := Jkr (m := m) (what := 2) h1 Jku.1 rfl
 unfold rowN
 rw [hx]
 simp only
 rw [if_pos (by rw [Jle hn rfl rfl rfl]; rfl)]
 show J2r _ 1 0 (p + 1) = _
 unfold J2r
 simp only [show J0A (rowK 7 nm 1).kind 0 = 2 from rfl, h2]
 rfl
theorem Jni {nm : ByteArray} (hx : l[p]? = some (rowK 5 nm 1)) (h1 : l[p + 1]? = some (rowK 29 ByteArray.empty 0)) (hn : J09 nm = true) : rowN J09 l (m + 2) p 0 = (p + 2, true) := by
 have h2 := Jkr (m := m) (what := 7) h1 Jku.2 rfl
 unfold rowN
 rw [hx]
 simp only
 rw [if_pos (by rw [Jle hn rfl rfl rfl]; rfl)]
 show J2r _ 1 0 (p + 1) = _
 unfold J2r
 simp only [show J0A (rowK 5 nm 1).kind 0 = 7 from rfl, h2]
 rfl
theorem Jnn {nm : ByteArray} (hx : l[p]? = some (rowK 4 nm 3)) (h1 : l[p + 1]? = some (rowK 29 ByteArray.empty 0)) (h2 : l[p + 2]? = some (rowK 29 ByteArray.empty 0)) (h3 : l[p + 3]? = some (rowK 29 ByteArray.empty 0)) (hn : J09 nm = true) : rowN J09 l (m + 2) p 0 = (p + 4, true) := by
 have e1 := Jkr (m := m) (what := 7) h1 Jku.2 rfl
 have e2 := Jkr (m := m) (what := 7) h2 Jku.2 rfl
 have e3 := Jkr (m := m) (what := 7) h3 Jku.2 rfl
 unfold rowN
 rw [hx]
 simp only
 rw [if_pos (by rw [Jle hn rfl rfl rfl]; rfl)]
 show J2r _ 3 0 (p + 1) = _
 unfold J2r
 simp only [show J0A (rowK 4 nm 3).kind 0 = 7 from rfl, e1, if_true]
 unfold J2r
 simp only [show J0A (rowK 4 nm 3).kind (0 + 1) = 7 from rfl, show p + 1 + 1 = p + 2 by omega, e2, if_true]
 unfold J2r
 simp only [show J0A (rowK 4 nm 3).kind (0 + 1 + 1) = 7 from rfl, show p + 2 + 1 = p + 3 by omega, e3, if_true]
 rfl
theorem JkQ {sz : Nat} : ∀ (c r p : Nat), (∀ i, i < c → rowN J09 l m (p + sz * i) 0 = (p + sz * (i + 1), true) ∧ isEv l[p + sz * i]? = false) → polN J09 l m (c + r) false p = polN J09 l m r false (p + sz * c)
 | 0, r, p, _ => by rw [Nat.zero_add, Nat.mul_zero, Nat.add_zero]
 | c + 1, r, p, h => by
  obtain ⟨h1, h2⟩ := h 0 (by omega)
  rw [Nat.mul_zero, Nat.add_zero, Nat.zero_add, Nat.mul_one] at h1
  rw [Nat.mul_zero, Nat.add_zero] at h2
  have hd : J3J false l[p]? = 0 := by unfold J3J; rw [h2]; rfl
  rw [show c + 1 + r = (c + r) + 1 by omega]
  change (if (rowN J09 l m p (J3J false l[p]?)).2 = true then polN J09 l m (c + r) (false || isEv l[p]?) (rowN J09 l m p (J3J false l[p]?)).1 else ((rowN J09 l m p (J3J false l[p]?)).1, false)) = _
  rw [hd, h1, h2]
  simp only [if_true, Bool.or_self]
  rw [JkQ c r (p + sz) fun i hi => by
   obtain ⟨a, b⟩ := h (i + 1) (by omega)
   rw [show p + sz * (i + 1) = p + sz + sz * i by rw [Nat.mul_succ]; omega] at a b
   rw [show p + sz * (i + 1 + 1) = p + sz + sz * (i + 1) by rw [Nat.mul_succ, Nat.mul_succ]; omega] at a
   exact ⟨a, b⟩]
  have e : p + sz + sz * c = p + sz * (c + 1) := by rw [Nat.mul_succ]; omega
  rw [e]
end
section
variable {q v t r : Nat}
theorem JlB (hq : q < 70) (hv : v < 70) (ht : t < 70) (hr : r < 70) : J2L J09 (Jk5 q v t r) = none := by
 have hlen := JkN (q := q) (v := v) (t := t) (r := r)
 have hp : fitN J09 (rowK 1 pB ((q + v + t + r : Nat) : Int)) = true := Jle (by kernel_rfl) rfl (by have : J1U 1 = 0 := rfl; rw [this]; simp; omega) rfl
 have key : topN J09 (Jk5 q v t r) ((Jk5 q v t r).length + 1) = ((Jk5 q v t r).length, true) := by
  unfold topN
  rw [JlU]
  simp only
  rw [if_pos (by rw [hp]; rfl)]
  have e : (rowK 1 pB ((q + v + t + r : Nat) : Int)).kids.toNat = r + (t + (v + (q + 0))) := by
   show ((q + v + t + r : Nat) : Int).toNat = _
   rw [Int.toNat_natCast]
   omega
  rw [e]
  by_cases h2 : 2 ≤ (Jk5 q v t r).length + 1
  ·obtain ⟨m, hm⟩ : ∃ m, (Jk5 q v t r).length + 1 = m + 2 := ⟨(Jk5 q v t r).length - 1, by omega⟩
   rw [hm]
   rw [JkQ (sz := 2) r _ 1 fun i hi => ⟨by
    have a := JkG (q := q) (v := v) (t := t) hi (j := 0) (by decide)
    have b := JkG (q := q) (v := v) (t := t) hi (j := 1) (by decide)
    rw [show 1 + 2 * (i + 1) = 1 + 2 * i + 2 by omega]
    exact Jnz a b (Jl7 (by omega)).1, by
    have a := JkG (q := q) (v := v) (t := t) hi (j := 0) (by decide)
    rw [Nat.add_zero] at a
    rw [a]; rfl⟩]
   rw [JkQ (sz := 2) t _ (1 + 2 * r) fun i hi => ⟨by
    have a := JkC (q := q) (v := v) (r := r) hi (j := 0) (by decide)
    have b := JkC (q := q) (v := v) (r := r) hi (j := 1) (by decide)
    rw [show 1 + 2 * r + 2 * (i + 1) = 1 + 2 * r + 2 * i + 2 by omega]
    exact Jni a b (Jl7 (by omega)).2.1, by
    have a := JkC (q := q) (v := v) (r := r) hi (j := 0) (by decide)
    rw [Nat.add_zero] at a
    rw [a]; rfl⟩]
   rw [JkQ (sz := 4) v _ (1 + 2 * r + 2 * t) fun i hi => ⟨by
    have a := Jkt (q := q) (t := t) (r := r) hi (j := 0) (by decide)
    have b := Jkt (q := q) (t := t) (r := r) hi (j := 1) (by decide)
    have c := Jkt (q := q) (t := t) (r := r) hi (j := 2) (by decide)
    have d := Jkt (q := q) (t := t) (r := r) hi (j := 3) (by decide)
    rw [show 1 + 2 * r + 2 * t + 4 * (i + 1) = 1 + 2 * r + 2 * t + 4 * i + 4 by omega]
    exact Jnn a b c d (Jl7 (by omega)).2.2.1, by
    have a := Jkt (q := q) (t := t) (r := r) hi (j := 0) (by decide)
    rw [Nat.add_zero] at a
    rw [a]; rfl⟩]
   rw [JkQ (sz := 1) q 0 (1 + 2 * r + 2 * t + 4 * v) fun i hi => ⟨by
    have a := Jlh (v := v) (t := t) (r := r) hi
    rw [Nat.one_mul, Nat.one_mul, show 1 + 2 * r + 2 * t + 4 * v + (i + 1) = 1 + 2 * r + 2 * t + 4 * v + i + 1 by omega]
    exact Jny a (Jl7 (by omega)).2.2.2, by
    have a := Jlh (v := v) (t := t) (r := r) hi
    rw [Nat.one_mul, a]; rfl⟩]
   unfold polN
   rw [hlen, Nat.one_mul]
  ·omega
 unfold J2L
 rw [key]
 exact if_pos ⟨rfl, rfl⟩
end
section
variable {l : List RowN}
theorem JmI {g : Nat → Int × Nat} {kind B : Int} (hB : 0 ≤ B) (hg : ∀ p, 1 ≤ p → 0 ≤ (g p).1 ∧ (g p).1 ≤ B ∧ p ≤ (g p).2) : ∀ r k most next, 1 ≤ next → 0 ≤ most → most ≤ B + 1 → 0 ≤ (levL g l kind r k most next).1 ∧ (levL g l kind r k most next).1 ≤ B + 1 ∧ next ≤ (levL g l kind r k most next).2 := by
 intro r
 induction r with
 | zero => intro k most next h h0 h1; exact ⟨h0, h1, Nat.le_refl _⟩
 | succ r ih =>
  intro k most next hn h0 h1
  unfold levL
  split
  ·exact ⟨h0, h1, Nat.le_refl _⟩
  ·rename_i y hy
   have h2 := hg next hn
   have h3 := J6p (J1f kind) (J1f y.kind) k
   have h4 := ih (k + 1) (if (g next).1 + J2i (J1f kind) (J1f y.kind) k > most then (g next).1 + J2i (J1f kind) (J1f y.kind) k else most) (g next).2 (by omega) (by split <;> omega) (by split <;> omega)
   omega
theorem Jl5 : ∀ m p, p ≤ (levN l m p).2 ∧ 0 ≤ (levN l m p).1 := by
 intro m
 induction m with
 | zero => intro p; exact ⟨Nat.le_refl _, Int.le_refl _⟩
 | succ m ih =>
  intro p
  unfold levN
  cases l[p]? with
  | none => exact ⟨Nat.le_refl _, Int.le_refl _⟩
  | some x =>
   simp only
   have ho := J4A x.kind
   have key : ∀ (r k : Nat) (most : Int) (next : Nat), 0 ≤ most → 0 ≤ (levL (levN l m) l x.kind r k most next).1 ∧ next ≤ (levL (levN l m) l x.kind r k most next).2 := by
    intro r
    induction r with
    | zero => intro k most next h0; exact ⟨h0, Nat.le_refl _⟩
    | succ r ih2 =>
     intro k most next h0
     unfold levL
     split
     ·exact ⟨h0, Nat.le_refl _⟩
     ·rename_i y hy
      have h2 := ih next
      have h4 := ih2 (k + 1) (if (levN l m next).1 + J2i (J1f x.kind) (J1f y.kind) k > most then (levN l m next).1 + J2i (J1f x.kind) (J1f y.kind) k else most) (levN l m next).2 (by split <;> omega)
      omega
   have := key x.kids.toNat 0 0 (p + 1) (Int.le_refl _)
   omega
theorem Jm7 {D : Nat → Prop} (hleaf : ∀ p x, l[p]? = some x → 1 ≤ p → ¬ D p → x.kids.toNat = 0) (hdecl : ∀ p, D p → 1 ≤ p ∧ ∀ x, l[p]? = some x → x.kids.toNat ≤ 3 ∧ ∀ j, j < x.kids.toNat → ¬ D (p + 1 + j)) : ∀ m p, 1 ≤ p → (levN l m p).1 ≤ 4 := by
 have leaf : ∀ m p, 1 ≤ p → ¬ D p → (levN l m p).1 ≤ 1 ∧ (levN l m p).2 ≤ p + 1 := by
  intro m p h1 hD
  cases m with
  | zero => exact ⟨by show (0 : Int) ≤ 1; omega, by show p ≤ p + 1; omega⟩
  | succ m =>
   unfold levN
   cases hx : l[p]? with
   | none => exact ⟨by show (0 : Int) ≤ 1; omega, by show p ≤ p + 1; omega⟩
   | some x =>
    simp only
    rw [hleaf p x hx h1 hD]
    have ho := J4A x.kind
    exact ⟨by show (0 : Int) + J1s x.kind ≤ 1; omega, Nat.le_refl _⟩
 intro m p h1
 by_cases hD : D p
 ·cases m with
  | zero => show (0 : Int) ≤ 4; omega
  | succ m =>
   unfold levN
   cases hx : l[p]? with
   | none => show (0 : Int) ≤ 4; omega
   | some x =>
    simp only
    obtain ⟨h2, h3⟩ := (hdecl p hD).2 x hx
    have ho := J4A x.kind
    have key : ∀ (r k : Nat) (most : Int) (next : Nat), p + 1 ≤ next → next + r ≤ p + 1 + x.kids.toNat → most ≤ 2 → (levL (levN l m) l x.kind r k most next).1 ≤ 2 := by
     intro r
     induction r with
     | zero => intro k most next _ _ h0; exact h0
     | succ r ih =>
      intro k most next ha hb h0
      unfold levL
      split
      ·exact h0
      ·rename_i y hy
       have h4 := leaf m next (by omega) (by
        have := h3 (next - (p + 1)) (by omega)
        rw [show p + 1 + (next - (p + 1)) = next by omega] at this
        exact this)
       have h5 := J6p (J1f x.kind) (J1f y.kind) k
       have h6 := Jl5 (l := l) m next
       by_cases hnn : (levN l m next).2 = next + 1
       ·exact ih (k + 1) _ _ (by omega) (by omega) (by split <;> omega)
       ·have hnn2 : (levN l m next).2 = next := by omega
        have : ∀ (r' k' : Nat) (most' : Int), most' ≤ 2 → (levL (levN l m) l x.kind r' k' most' next).1 ≤ 2 := by
         intro r'
         induction r' with
         | zero => intro k' most' h9; exact h9
         | succ r' ih' =>
          intro k' most' h9
          unfold levL
          split
          ·exact h9
          ·rename_i z hz
           have h5 := J6p (J1f x.kind) (J1f z.kind) k'
           rw [hnn2]
           exact ih' (k' + 1) _ (by split <;> omega)
        rw [hnn2]
        exact this r (k + 1) _ (by split <;> omega)
    have := key x.kids.toNat 0 0 (p + 1) (Nat.le_refl _) (Nat.le_refl _) (by omega)
    omega
 ·have := (leaf m p h1 hD).1
  omega
theorem Jmz (h : ∀ m p, 1 ≤ p → (levN l m p).1 ≤ 4) (m : Nat) : (levN l m 0).1 ≤ 64 := by
 cases m with
 | zero => show (0 : Int) ≤ 64; omega
 | succ m =>
  unfold levN
  cases l[0]? with
  | none => show (0 : Int) ≤ 64; omega
  | some x =>
   simp only
   have ho := J4A x.kind
   have := JmI (l := l) (g := levN l m) (kind := x.kind) (B := 4) (by decide) (fun p hp => ⟨(Jl5 m p).2, h m p hp, (Jl5 m p).1⟩) x.kids.toNat 0 0 (0 + 1) (by omega) (by omega) (by omega)
   omega
end
section
variable {q v t r : Nat}
theorem Jkz {p : Nat} {x : RowN} (h : (Jk5 q v t r)[p]? = some x) (hp : 1 ≤ p) :
  (∃ i, i < r ∧ ((p = 1 + 2 * i ∧ x = rowK 7 (numB 114 i) 1) ∨ (p = 1 + 2 * i + 1 ∧ x = rowK 11 ByteArray.empty 0))) ∨
  (∃ i, i < t ∧ ((p = 1 + 2 * r + 2 * i ∧ x = rowK 5 (numB 116 i) 1) ∨ (p = 1 + 2 * r + 2 * i + 1 ∧ x = rowK 29 ByteArray.empty 0))) ∨
  (∃ i, i < v ∧ ((p = 1 + 2 * r + 2 * t + 4 * i ∧ x = rowK 4 (numB 118 i) 3) ∨ (∃ j, j < 3 ∧ p = 1 + 2 * r + 2 * t + 4 * i + 1 + j ∧ x = rowK 29 ByteArray.empty 0))) ∨
  (∃ i, i < q ∧ p = 1 + 2 * r + 2 * t + 4 * v + i ∧ x = rowK 2 (numB 113 i) 0) := by
 have hl := (List.getElem?_eq_some_iff.1 h).1
 rw [JkN] at hl
 by_cases h1 : p < 1 + 2 * r
 ·left
  refine ⟨(p - 1) / 2, by omega, ?_⟩
  by_cases h2 : p = 1 + 2 * ((p - 1) / 2)
  ·have := JkG (q := q) (v := v) (t := t) (i := (p - 1) / 2) (r := r) (by omega) (j := 0) (by decide)
   rw [Nat.add_zero, ← h2, h] at this
   exact .inl ⟨h2, Option.some.inj this⟩
  ·have h3 : p = 1 + 2 * ((p - 1) / 2) + 1 := by omega
   have := JkG (q := q) (v := v) (t := t) (i := (p - 1) / 2) (r := r) (by omega) (j := 1) (by decide)
   rw [← h3, h] at this
   exact .inr ⟨h3, Option.some.inj this⟩
 by_cases h2 : p < 1 + 2 * r + 2 * t
 ·right; left
  refine ⟨(p - 1 - 2 * r) / 2, by omega, ?_⟩
  by_cases h3 : p = 1 + 2 * r + 2 * ((p - 1 - 2 * r) / 2)
  ·have := JkC (q := q) (v := v) (t := t) (i := (p - 1 - 2 * r) / 2) (r := r) (by omega) (j := 0) (by decide)
   rw [Nat.add_zero, ← h3, h] at this
   exact .inl ⟨h3, Option.some.inj this⟩
  ·have h4 : p = 1 + 2 * r + 2 * ((p - 1 - 2 * r) / 2) + 1 := by omega
   have := JkC (q := q) (v := v) (t := t) (i := (p - 1 - 2 * r) / 2) (r := r) (by omega) (j := 1) (by decide)
   rw [← h4, h] at this
   exact .inr ⟨h4, Option.some.inj this⟩
 by_cases h3 : p < 1 + 2 * r + 2 * t + 4 * v
 ·right; right; left
  obtain ⟨i, j, hi, hj, e⟩ : ∃ i j, i < v ∧ j < 4 ∧ p = 1 + 2 * r + 2 * t + 4 * i + j := ⟨(p - 1 - 2 * r - 2 * t) / 4, (p - 1 - 2 * r - 2 * t) % 4, by omega, by omega, by omega⟩
  have := Jkt (q := q) (v := v) (t := t) (r := r) hi hj
  rw [← e, h] at this
  refine ⟨i, hi, ?_⟩
  have hc : j = 0 ∨ j = 1 ∨ j = 2 ∨ j = 3 := by omega
  rcases hc with rfl | rfl | rfl | rfl
  ·exact .inl ⟨e, Option.some.inj this⟩
  ·exact .inr ⟨0, by decide, by omega, Option.some.inj this⟩
  ·exact .inr ⟨1, by decide, by omega, Option.some.inj this⟩
  ·exact .inr ⟨2, by decide, by omega, Option.some.inj this⟩
 ·right; right; right
  have := Jlh (q := q) (v := v) (t := t) (r := r) (i := p - (1 + 2 * r + 2 * t + 4 * v)) (by omega)
  rw [show 1 + 2 * r + 2 * t + 4 * v + (p - (1 + 2 * r + 2 * t + 4 * v)) = p by omega, h] at this
  exact ⟨_, by omega, by omega, Option.some.inj this⟩
theorem JlA (hq : q < 70) (hv : v < 70) (ht : t < 70) (hr : r < 70) : J0v (Jk5 q v t r) = (0, 0) := by
 have hlev : ∀ m p, 1 ≤ p → (levN (Jk5 q v t r) m p).1 ≤ 4 := by
  refine Jm7 (D := fun p => (∃ i, i < r ∧ p = 1 + 2 * i) ∨ (∃ i, i < t ∧ p = 1 + 2 * r + 2 * i) ∨ (∃ i, i < v ∧ p = 1 + 2 * r + 2 * t + 4 * i)) (fun p x hx h1 hD => ?_) (fun p hD => ?_)
  ·rcases Jkz hx h1 with ⟨i, hi, ⟨e, rfl⟩ | ⟨e, rfl⟩⟩ | ⟨i, hi, ⟨e, rfl⟩ | ⟨e, rfl⟩⟩ | ⟨i, hi, ⟨e, rfl⟩ | ⟨j, _, e, rfl⟩⟩ | ⟨i, hi, e, rfl⟩
   ·exact absurd (.inl ⟨i, hi, e⟩) hD
   ·rfl
   ·exact absurd (.inr (.inl ⟨i, hi, e⟩)) hD
   ·rfl
   ·exact absurd (.inr (.inr ⟨i, hi, e⟩)) hD
   ·rfl
   ·rfl
  ·refine ⟨by rcases hD with ⟨i, _, e⟩ | ⟨i, _, e⟩ | ⟨i, _, e⟩ <;> omega, fun x hx => ?_⟩
   have h1 : 1 ≤ p := by rcases hD with ⟨i, _, e⟩ | ⟨i, _, e⟩ | ⟨i, _, e⟩ <;> omega
   rcases Jkz hx h1 with ⟨i, hi, ⟨e, rfl⟩ | ⟨e, rfl⟩⟩ | ⟨i, hi, ⟨e, rfl⟩ | ⟨e, rfl⟩⟩ | ⟨i, hi, ⟨e, rfl⟩ | ⟨j, _, e, rfl⟩⟩ | ⟨i, hi, e, rfl⟩
   ·refine ⟨by show (1 : Nat) ≤ 3; decide, fun j hj => ?_⟩
    have hj' : j < 1 := hj
    rintro (⟨k, hk, e2⟩ | ⟨k, hk, e2⟩ | ⟨k, hk, e2⟩) <;> omega
   ·exact ⟨by show (0 : Nat) ≤ 3; decide, fun j hj => absurd hj (Nat.not_lt_zero _)⟩
   ·refine ⟨by show (1 : Nat) ≤ 3; decide, fun j hj => ?_⟩
    have hj' : j < 1 := hj
    rintro (⟨k, hk, e2⟩ | ⟨k, hk, e2⟩ | ⟨k, hk, e2⟩) <;> omega
   ·exact ⟨by show (0 : Nat) ≤ 3; decide, fun j hj => absurd hj (Nat.not_lt_zero _)⟩
   ·refine ⟨by show (3 : Nat) ≤ 3; decide, fun j hj => ?_⟩
    have hj' : j < 3 := hj
    rintro (⟨k, hk, e2⟩ | ⟨k, hk, e2⟩ | ⟨k, hk, e2⟩) <;> omega
   ·exact ⟨by show (0 : Nat) ≤ 3; decide, fun j hj => absurd hj (Nat.not_lt_zero _)⟩
   ·exact ⟨by show (0 : Nat) ≤ 3; decide, fun j hj => absurd hj (Nat.not_lt_zero _)⟩
 unfold J0v
 rw [JlB hq hv ht hr]
 have := Jmz hlev ((Jk5 q v t r).length + 1)
 exact if_neg (by omega)
end
section
variable {E : List Int} {s : StN} {at_ : Nat} {x : RowN}
theorem JlE (hx : s.rows[at_]? = some x) (hd : J0j x.kind ≠ 0) (hc : J1O x.kind = 0) (he : J0E x.kind = false) (h0 : J25 x s = 0) : J31 E at_ s = (0, addN at_ ((E[at_]?).getD 0) x s) := by
 have hS : J0W at_ ((E[at_]?).getD 0) x s = addN at_ ((E[at_]?).getD 0) x s := by unfold J0W; rw [if_neg hd]
 have hr : (addN at_ ((E[at_]?).getD 0) x s).rows[at_]? = some { x with n := cntN s (J0j x.kind) } := J4g hx
 unfold J31
 rw [hx]
 simp only
 rw [if_neg (fun h => h h0), hS, hr]
 simp only
 have c0 : J1v at_ { x with n := cntN s (J0j x.kind) } (addN at_ ((E[at_]?).getD 0) x s) = 0 := by unfold J1v; rw [if_pos hc]
 have c1 : J0D at_ { x with n := cntN s (J0j x.kind) } (addN at_ ((E[at_]?).getD 0) x s) = addN at_ ((E[at_]?).getD 0) x s := by unfold J0D; rw [if_pos hc]
 rw [if_neg (fun h => h c0), c1, hr]
 simp only
 have e0 : evE { x with n := cntN s (J0j x.kind) } (addN at_ ((E[at_]?).getD 0) x s) = 0 := by unfold evE; rw [if_pos he]
 have e1 : evS at_ { x with n := cntN s (J0j x.kind) } (addN at_ ((E[at_]?).getD 0) x s) = addN at_ ((E[at_]?).getD 0) x s := by unfold evS; rw [if_pos he]
 rw [if_neg (fun h => h e0), e1]
theorem JlP (hx : s.rows[at_]? = some x) (h0 : J25 x s ≠ 0) : J31 E at_ s = (J25 x s, s) := by
 unfold J31
 rw [hx]
 simp only
 rw [if_pos h0]
theorem Jlw (hx : s.rows[at_]? = some x) (hd : J0j x.kind = 0) (hc : J1O x.kind = 0) (he : J0E x.kind = false) : J31 E at_ s = (0, s) := by
 have d0 : J25 x s = 0 := by unfold J25; rw [if_pos hd]
 have hS : J0W at_ ((E[at_]?).getD 0) x s = s := by unfold J0W; rw [if_pos hd]
 have c0 : J1v at_ x s = 0 := by unfold J1v; rw [if_pos hc]
 have c1 : J0D at_ x s = s := by unfold J0D; rw [if_pos hc]
 have e0 : evE x s = 0 := by unfold evE; rw [if_pos he]
 have e1 : evS at_ x s = s := by unfold evS; rw [if_pos he]
 unfold J31
 rw [hx]
 simp only
 rw [if_neg (fun h => h d0), hS, hx]
 simp only
 rw [if_neg (fun h => h c0), c1, hx]
 simp only
 rw [if_neg (fun h => h e0), e1]
theorem JlY {n : Nat} {s' : StN} (h : J31 E at_ s = (0, s')) : goN E (n + 1) at_ s = goN E n (at_ + 1) s' := by
 change (if (J31 E at_ s).1 ≠ 0 then ((J31 E at_ s).1, at_, s) else goN E n (at_ + 1) (J31 E at_ s).2) = _
 rw [h]
 exact if_neg (fun h => h rfl)
theorem Jln : ∀ (k n at_ : Nat), (∀ j, j < k → ∃ x, s.rows[at_ + j]? = some x ∧ J0j x.kind = 0 ∧ J1O x.kind = 0 ∧ J0E x.kind = false) → goN E (k + n) at_ s = goN E n (at_ + k) s
 | 0, n, at_, _ => by rw [Nat.zero_add, Nat.add_zero]
 | k + 1, n, at_, h => by
  obtain ⟨x, h1, h2, h3, h4⟩ := h 0 (by omega)
  rw [Nat.add_zero] at h1
  rw [show k + 1 + n = (k + n) + 1 by omega, JlY (Jlw h1 h2 h3 h4), Jln k n (at_ + 1) fun j hj => by
   have := h (j + 1) (by omega)
   rw [show at_ + (j + 1) = at_ + 1 + j by omega] at this
   exact this]
  rw [show at_ + 1 + k = at_ + (k + 1) by omega]
theorem JkK {I : Nat → StN → Prop} {sz p0 c : Nat} (hI : ∀ i s, i < c → I i s → ∃ s', (∀ n, goN E (sz + n) (p0 + sz * i) s = goN E n (p0 + sz * (i + 1)) s') ∧ I (i + 1) s') : ∀ k s, k ≤ c → I 0 s → ∃ s', (∀ n, goN E (sz * k + n) p0 s = goN E n (p0 + sz * k) s') ∧ I k s' := by
 intro k
 induction k with
 | zero => intro s _ h; exact ⟨s, fun n => by rw [Nat.mul_zero, Nat.zero_add, Nat.add_zero], h⟩
 | succ k ih =>
  intro s hk h
  obtain ⟨s1, h1, h2⟩ := ih s (by omega) h
  obtain ⟨s2, h3, h4⟩ := hI k s1 (by omega) h2
  refine ⟨s2, fun n => ?_, h4⟩
  rw [Nat.mul_succ, Nat.add_assoc, h1, h3, Nat.mul_succ]
end
theorem JmU {c d : Int} {i j : Nat} (h : UInt8.ofNat c.toNat ≠ UInt8.ofNat d.toNat) : numB c i ≠ numB d j := fun h9 => by
 unfold numB at h9
 simp only [ByteArray.mk.injEq, Array.mk.injEq, List.cons.injEq] at h9
 exact h h9.1
structure SegI (l : List RowN) (at_ : Nat) (s : StN) (nr nt nv nq : Nat) : Prop where
 u : s.rules.length = nr
 t : s.tags.length = nt
 v : s.vars.length = nv
 q : s.queues.length = nq
 o : s.on.length = nq
 later : ∀ p, at_ ≤ p → s.rows[p]? = l[p]?
 th : ∀ x ∈ s.things, (∃ j, j < nr ∧ x.name = numB 114 j) ∨ (∃ j, j < nt ∧ x.name = numB 116 j) ∨ (∃ j, j < nv ∧ x.name = numB 118 j) ∨ (∃ j, j < nq ∧ x.name = numB 113 j)
section
variable {l : List RowN} {E : List Int} {s : StN} {p nr nt nv nq : Nat}
theorem Jkb (h : SegI l p s nr nt nv nq) (hb : nr < 1000 ∧ nt < 1000 ∧ nv < 1000 ∧ nq < 1000) : J30 s.things (numB 114 nr) = none ∧ J30 s.things (numB 116 nt) = none ∧ J30 s.things (numB 118 nv) = none ∧ J30 s.things (numB 113 nq) = none := by
 refine ⟨Jkf _ fun x hx he => ?_, Jkf _ fun x hx he => ?_, Jkf _ fun x hx he => ?_, Jkf _ fun x hx he => ?_⟩
 all_goals
  rcases h.th x hx with ⟨j, hj, e⟩ | ⟨j, hj, e⟩ | ⟨j, hj, e⟩ | ⟨j, hj, e⟩
  all_goals
   rw [e] at he
   first
    | exact JmU (by decide) he
    | (have := JlV (by omega) (by omega) he; omega)
theorem Jkg {x : RowN} (hd : J0j x.kind ≠ 0) (hf : J30 s.things x.name = none) : J25 x s = if (cntN s (J0j x.kind) : Int) = J3g (J0j x.kind) then 3 else 0 := by
 unfold J25
 rw [if_neg hd, hf]
 rfl
theorem Jl4 {k : Nat} {x : RowN} (hx : s.rows[p]? = some x) (hd : J0j x.kind ≠ 0) (hc : J1O x.kind = 0) (he : J0E x.kind = false) (h0 : J25 x s = 0) (hl : ∀ j, j < k → ∃ y, s.rows[p + 1 + j]? = some y ∧ J0j y.kind = 0 ∧ J1O y.kind = 0 ∧ J0E y.kind = false) (n : Nat) :
  goN E (k + 1 + n) p s = goN E n (p + (k + 1)) (addN p ((E[p]?).getD 0) x s) := by
 rw [show k + 1 + n = (k + n) + 1 by omega, JlY (JlE hx hd hc he h0), Jln k n (p + 1) fun j hj => by
  obtain ⟨y, h1, h2⟩ := hl j hj
  exact ⟨y, by rw [show (addN p ((E[p]?).getD 0) x s).rows = setN s.rows p (cntN s (J0j x.kind)) from rfl, J4M (by omega)]; exact h1, h2⟩]
 rw [show p + 1 + k = p + (k + 1) by omega]
theorem Jlv {n : Nat} {x : RowN} (hx : s.rows[p]? = some x) (h0 : J25 x s ≠ 0) : goN E (n + 1) p s = (J25 x s, p, s) := by
 change (if (J31 E p s).1 ≠ 0 then ((J31 E p s).1, p, s) else goN E n (p + 1) (J31 E p s).2) = _
 rw [JlP hx h0]
 exact if_pos h0
end
section
variable {l : List RowN} {E : List Int} {s : StN} {p nr nt nv nq k : Nat} {e : Int}
theorem JnB (h : SegI l p s nr nt nv nq) (hk : 0 < k) : SegI l (p + k) (addN p e (rowK 7 (numB 114 nr) 1) s) (nr + 1) nt nv nq where
 u := by show (s.rules ++ [(p : Int) + 1]).length = _; rw [List.length_append, h.u]; rfl
 t := h.t
 v := h.v
 q := h.q
 o := h.o
 later := fun i hi => (J4M (by omega)).trans (h.later i (by omega))
 th := fun x hx => by
  have hx : x ∈ s.things ++ [⟨numB 114 nr, 4, cntN s 4, e⟩] := hx
  simp only [List.mem_append, List.mem_cons, List.not_mem_nil, or_false] at hx
  rcases hx with h9 | rfl
  ·rcases h.th x h9 with ⟨j, hj, e⟩ | h9 | h9 | h9
   ·exact .inl ⟨j, by omega, e⟩
   ·exact .inr (.inl h9)
   ·exact .inr (.inr (.inl h9))
   ·exact .inr (.inr (.inr h9))
  ·exact .inl ⟨nr, by omega, rfl⟩
theorem JnA (h : SegI l p s nr nt nv nq) (hk : 0 < k) : SegI l (p + k) (addN p e (rowK 5 (numB 116 nt) 1) s) nr (nt + 1) nv nq where
 u := h.u
 t := by show (s.tags ++ [numB 116 nt]).length = _; rw [List.length_append, h.t]; rfl
 v := h.v
 q := h.q
 o := h.o
 later := fun i hi => (J4M (by omega)).trans (h.later i (by omega))
 th := fun x hx => by
  have hx : x ∈ s.things ++ [⟨numB 116 nt, 3, cntN s 3, e⟩] := hx
  simp only [List.mem_append, List.mem_cons, List.not_mem_nil, or_false] at hx
  rcases hx with h9 | rfl
  ·rcases h.th x h9 with h9 | ⟨j, hj, e⟩ | h9 | h9
   ·exact .inl h9
   ·exact .inr (.inl ⟨j, by omega, e⟩)
   ·exact .inr (.inr (.inl h9))
   ·exact .inr (.inr (.inr h9))
  ·exact .inr (.inl ⟨nt, by omega, rfl⟩)
theorem Jnl (h : SegI l p s nr nt nv nq) (hk : 0 < k) : SegI l (p + k) (addN p e (rowK 4 (numB 118 nv) 3) s) nr nt (nv + 1) nq where
 u := h.u
 t := h.t
 v := by show (s.vars ++ [numB 118 nv]).length = _; rw [List.length_append, h.v]; rfl
 q := h.q
 o := h.o
 later := fun i hi => (J4M (by omega)).trans (h.later i (by omega))
 th := fun x hx => by
  have hx : x ∈ s.things ++ [⟨numB 118 nv, 2, cntN s 2, e⟩] := hx
  simp only [List.mem_append, List.mem_cons, List.not_mem_nil, or_false] at hx
  rcases hx with h9 | rfl
  ·rcases h.th x h9 with h9 | h9 | ⟨j, hj, e⟩ | h9
   ·exact .inl h9
   ·exact .inr (.inl h9)
   ·exact .inr (.inr (.inl ⟨j, by omega, e⟩))
   ·exact .inr (.inr (.inr h9))
  ·exact .inr (.inr (.inl ⟨nv, by omega, rfl⟩))
theorem Jne (h : SegI l p s nr nt nv nq) (hk : 0 < k) : SegI l (p + k) (addN p e (rowK 2 (numB 113 nq) 0) s) nr nt nv (nq + 1) where
 u := h.u
 t := h.t
 v := h.v
 q := by show (s.queues ++ [(numB 113 nq, false)]).length = _; rw [List.length_append, h.q]; rfl
 o := by show (s.on ++ [(-1 : Int)]).length = _; rw [List.length_append, h.o]; rfl
 later := fun i hi => (J4M (by omega)).trans (h.later i (by omega))
 th := fun x hx => by
  have hx : x ∈ s.things ++ [⟨numB 113 nq, 1, cntN s 1, e⟩] := hx
  simp only [List.mem_append, List.mem_cons, List.not_mem_nil, or_false] at hx
  rcases hx with h9 | rfl
  ·rcases h.th x h9 with h9 | h9 | h9 | ⟨j, hj, e⟩
   ·exact .inl h9
   ·exact .inr (.inl h9)
   ·exact .inr (.inr (.inl h9))
   ·exact .inr (.inr (.inr ⟨j, by omega, e⟩))
  ·exact .inr (.inr (.inr ⟨nq, by omega, rfl⟩))
end
def badN (q v t r : Nat) : Nat := if 64 < r then 129 else if 4 < t then 1 + 2 * r + 8 else if 16 < v then 1 + 2 * r + 2 * t + 64 else if 16 < q then 1 + 2 * r + 2 * t + 4 * v + 16 else 0
section
variable {q v t r : Nat} {E : List Int}
theorem go_R (hr : r < 70) : ∀ i s, i < min r 64 → SegI (Jk5 q v t r) (1 + 2 * i) s i 0 0 0 → ∃ s', (∀ n, goN E (2 + n) (1 + 2 * i) s = goN E n (1 + 2 * (i + 1)) s') ∧ SegI (Jk5 q v t r) (1 + 2 * (i + 1)) s' (i + 1) 0 0 0 := fun i s hi h => by
 have a := JkG (q := q) (v := v) (t := t) (i := i) (r := r) (by omega) (j := 0) (by decide)
 have b := JkG (q := q) (v := v) (t := t) (i := i) (r := r) (by omega) (j := 1) (by decide)
 rw [Nat.add_zero] at a
 have hx : s.rows[1 + 2 * i]? = some (rowK 7 (numB 114 i) 1) := (h.later _ (Nat.le_refl _)).trans a
 have h0 : J25 (rowK 7 (numB 114 i) 1) s = 0 := by
  rw [Jkg (show J0j 7 ≠ 0 by decide) (Jkb h (by omega)).1]
  refine if_neg fun h9 => ?_
  have h8 : ((s.rules.length : Nat) : Int) = 64 := h9
  rw [h.u] at h8
  omega
 refine ⟨addN (1 + 2 * i) ((E[1 + 2 * i]?).getD 0) (rowK 7 (numB 114 i) 1) s, fun n => ?_, by rw [show 1 + 2 * (i + 1) = 1 + 2 * i + 2 by omega]; exact JnB h (by decide)⟩
 rw [show 1 + 2 * (i + 1) = 1 + 2 * i + (1 + 1) by omega]
 exact Jl4 (k := 1) hx (show J0j 7 ≠ 0 by decide) rfl rfl h0 (fun j hj => ⟨_, by rw [show 1 + 2 * i + 1 + j = 1 + 2 * i + 1 by omega]; exact (h.later _ (by omega)).trans b, rfl, rfl, rfl⟩) n
theorem go_T (ht : t < 70) (hr : r < 70) : ∀ i s, i < min t 4 → SegI (Jk5 q v t r) (1 + 2 * r + 2 * i) s r i 0 0 → ∃ s', (∀ n, goN E (2 + n) (1 + 2 * r + 2 * i) s = goN E n (1 + 2 * r + 2 * (i + 1)) s') ∧ SegI (Jk5 q v t r) (1 + 2 * r + 2 * (i + 1)) s' r (i + 1) 0 0 := fun i s hi h => by
 have a := JkC (q := q) (v := v) (t := t) (i := i) (r := r) (by omega) (j := 0) (by decide)
 have b := JkC (q := q) (v := v) (t := t) (i := i) (r := r) (by omega) (j := 1) (by decide)
 rw [Nat.add_zero] at a
 have hx : s.rows[1 + 2 * r + 2 * i]? = some (rowK 5 (numB 116 i) 1) := (h.later _ (Nat.le_refl _)).trans a
 have h0 : J25 (rowK 5 (numB 116 i) 1) s = 0 := by
  rw [Jkg (show J0j 5 ≠ 0 by decide) (Jkb h (by omega)).2.1]
  refine if_neg fun h9 => ?_
  have h8 : ((s.tags.length : Nat) : Int) = 4 := h9
  rw [h.t] at h8
  omega
 refine ⟨addN (1 + 2 * r + 2 * i) ((E[1 + 2 * r + 2 * i]?).getD 0) (rowK 5 (numB 116 i) 1) s, fun n => ?_, by rw [show 1 + 2 * r + 2 * (i + 1) = 1 + 2 * r + 2 * i + 2 by omega]; exact JnA h (by decide)⟩
 rw [show 1 + 2 * r + 2 * (i + 1) = 1 + 2 * r + 2 * i + (1 + 1) by omega]
 exact Jl4 (k := 1) hx (show J0j 5 ≠ 0 by decide) rfl rfl h0 (fun j hj => ⟨_, by rw [show 1 + 2 * r + 2 * i + 1 + j = 1 + 2 * r + 2 * i + 1 by omega]; exact (h.later _ (by omega)).trans b, rfl, rfl, rfl⟩) n
theorem go_V (hv : v < 70) (ht : t < 70) (hr : r < 70) : ∀ i s, i < min v 16 → SegI (Jk5 q v t r) (1 + 2 * r + 2 * t + 4 * i) s r t i 0 → ∃ s', (∀ n, goN E (4 + n) (1 + 2 * r + 2 * t + 4 * i) s = goN E n (1 + 2 * r + 2 * t + 4 * (i + 1)) s') ∧ SegI (Jk5 q v t r) (1 + 2 * r + 2 * t + 4 * (i + 1)) s' r t (i + 1) 0 := fun i s hi h => by
 have a := Jkt (q := q) (v := v) (t := t) (i := i) (r := r) (by omega) (j := 0) (by decide)
 rw [Nat.add_zero] at a
 have hx : s.rows[1 + 2 * r + 2 * t + 4 * i]? = some (rowK 4 (numB 118 i) 3) := (h.later _ (Nat.le_refl _)).trans a
 have h0 : J25 (rowK 4 (numB 118 i) 3) s = 0 := by
  rw [Jkg (show J0j 4 ≠ 0 by decide) (Jkb h (by omega)).2.2.1]
  refine if_neg fun h9 => ?_
  have h8 : ((s.vars.length : Nat) : Int) = 16 := h9
  rw [h.v] at h8
  omega
 refine ⟨addN (1 + 2 * r + 2 * t + 4 * i) ((E[1 + 2 * r + 2 * t + 4 * i]?).getD 0) (rowK 4 (numB 118 i) 3) s, fun n => ?_, by rw [show 1 + 2 * r + 2 * t + 4 * (i + 1) = 1 + 2 * r + 2 * t + 4 * i + 4 by omega]; exact Jnl h (by decide)⟩
 rw [show 1 + 2 * r + 2 * t + 4 * (i + 1) = 1 + 2 * r + 2 * t + 4 * i + (3 + 1) by omega]
 refine Jl4 (k := 3) hx (show J0j 4 ≠ 0 by decide) rfl rfl h0 (fun j hj => ⟨rowK 29 ByteArray.empty 0, ?_, rfl, rfl, rfl⟩) n
 have b := Jkt (q := q) (v := v) (t := t) (i := i) (r := r) (by omega) (j := j + 1) (by omega)
 rw [h.later _ (by omega), show 1 + 2 * r + 2 * t + 4 * i + 1 + j = 1 + 2 * r + 2 * t + 4 * i + (j + 1) by omega, b]
 have hc : j = 0 ∨ j = 1 ∨ j = 2 := by omega
 rcases hc with rfl | rfl | rfl <;> rfl
theorem go_Q (hq : q < 70) (hv : v < 70) (ht : t < 70) (hr : r < 70) : ∀ i s, i < min q 16 → SegI (Jk5 q v t r) (1 + 2 * r + 2 * t + 4 * v + 1 * i) s r t v i → ∃ s', (∀ n, goN E (1 + n) (1 + 2 * r + 2 * t + 4 * v + 1 * i) s = goN E n (1 + 2 * r + 2 * t + 4 * v + 1 * (i + 1)) s') ∧ SegI (Jk5 q v t r) (1 + 2 * r + 2 * t + 4 * v + 1 * (i + 1)) s' r t v (i + 1) := fun i s hi h => by
 have a := Jlh (q := q) (v := v) (t := t) (i := i) (r := r) (by omega)
 rw [Nat.one_mul] at h ⊢
 have hx : s.rows[1 + 2 * r + 2 * t + 4 * v + i]? = some (rowK 2 (numB 113 i) 0) := (h.later _ (Nat.le_refl _)).trans a
 have h0 : J25 (rowK 2 (numB 113 i) 0) s = 0 := by
  rw [Jkg (show J0j 2 ≠ 0 by decide) (Jkb h (by omega)).2.2.2]
  refine if_neg fun h9 => ?_
  have h8 : ((s.queues.length : Nat) : Int) = 16 := h9
  rw [h.q] at h8
  omega
 refine ⟨addN (1 + 2 * r + 2 * t + 4 * v + i) ((E[1 + 2 * r + 2 * t + 4 * v + i]?).getD 0) (rowK 2 (numB 113 i) 0) s, fun n => ?_, by rw [show 1 + 2 * r + 2 * t + 4 * v + 1 * (i + 1) = 1 + 2 * r + 2 * t + 4 * v + i + 1 by omega]; exact Jne h (by decide)⟩
 rw [show 1 + 2 * r + 2 * t + 4 * v + 1 * (i + 1) = 1 + 2 * r + 2 * t + 4 * v + i + (0 + 1) by omega]
 exact Jl4 (k := 0) hx (show J0j 2 ≠ 0 by decide) rfl rfl h0 (fun j hj => absurd hj (Nat.not_lt_zero _)) n
theorem JmH (hq : q < 70) (hv : v < 70) (ht : t < 70) (hr : r < 70) : (0 < badN q v t r → (goN E (Jk5 q v t r).length 0 (s0N (Jk5 q v t r))).1 = 3 ∧ (goN E (Jk5 q v t r).length 0 (s0N (Jk5 q v t r))).2.1 = badN q v t r) ∧
  (badN q v t r = 0 → ∃ s, goN E (Jk5 q v t r).length 0 (s0N (Jk5 q v t r)) = (0, (Jk5 q v t r).length, s) ∧ SegI (Jk5 q v t r) (Jk5 q v t r).length s r t v q) := by
 rw [JkN]
 have h1 : goN E (1 + 2 * r + 2 * t + 4 * v + q) 0 (s0N (Jk5 q v t r)) = goN E (2 * r + 2 * t + 4 * v + q) 1 (s0N (Jk5 q v t r)) := by
  rw [show 1 + 2 * r + 2 * t + 4 * v + q = 1 + (2 * r + 2 * t + 4 * v + q) by omega]
  exact Jln 1 _ 0 fun j hj => ⟨_, by rw [show 0 + j = 0 by omega]; exact JlU, rfl, rfl, rfl⟩
 rw [h1]
 have i0 : SegI (Jk5 q v t r) (1 + 2 * 0) (s0N (Jk5 q v t r)) 0 0 0 0 := ⟨rfl, rfl, rfl, rfl, rfl, fun _ _ => rfl, fun x hx => by simp [s0N] at hx⟩
 obtain ⟨sR, eR, iR⟩ := JkK (E := E) (I := fun i s => SegI (Jk5 q v t r) (1 + 2 * i) s i 0 0 0) (sz := 2) (p0 := 1) (c := min r 64) (go_R hr) (min r 64) _ (Nat.le_refl _) i0
 by_cases b1 : 64 < r
 ·have hm : min r 64 = 64 := by omega
  rw [hm] at eR iR
  have hb : badN q v t r = 129 := if_pos b1
  have a := JkG (q := q) (v := v) (t := t) (i := 64) (r := r) (by omega) (j := 0) (by decide)
  have hx : sR.rows[129]? = some (rowK 7 (numB 114 64) 1) := (iR.later 129 (by omega)).trans a
  have h3 : J25 (rowK 7 (numB 114 64) 1) sR = 3 := by
   rw [Jkg (show J0j 7 ≠ 0 by decide) (Jkb iR (by omega)).1]
   refine if_pos ?_
   show ((sR.rules.length : Nat) : Int) = 64
   rw [iR.u]
   rfl
  have e := eR (2 * r - 129 + 2 * t + 4 * v + q + 1)
  rw [show 2 * 64 + (2 * r - 129 + 2 * t + 4 * v + q + 1) = 2 * r + 2 * t + 4 * v + q by omega, Jlv hx (by rw [h3]; decide), h3] at e
  rw [e, hb]
  exact ⟨fun _ => ⟨rfl, rfl⟩, fun h => absurd h (by decide)⟩
 have hm : min r 64 = r := by omega
 rw [hm] at eR iR
 have e1 := eR (2 * t + 4 * v + q)
 rw [show 2 * r + (2 * t + 4 * v + q) = 2 * r + 2 * t + 4 * v + q by omega] at e1
 rw [e1]
 obtain ⟨sT, eT, iT⟩ := JkK (E := E) (I := fun i s => SegI (Jk5 q v t r) (1 + 2 * r + 2 * i) s r i 0 0) (sz := 2) (p0 := 1 + 2 * r) (c := min t 4) (go_T ht hr) (min t 4) _ (Nat.le_refl _) iR
 by_cases b2 : 4 < t
 ·have hm : min t 4 = 4 := by omega
  rw [hm] at eT iT
  have hb : badN q v t r = 1 + 2 * r + 8 := by unfold badN; rw [if_neg b1, if_pos b2]
  have a := JkC (q := q) (v := v) (t := t) (i := 4) (r := r) (by omega) (j := 0) (by decide)
  have hx : sT.rows[1 + 2 * r + 2 * 4]? = some (rowK 5 (numB 116 4) 1) := (iT.later _ (Nat.le_refl _)).trans a
  have h3 : J25 (rowK 5 (numB 116 4) 1) sT = 3 := by
   rw [Jkg (show J0j 5 ≠ 0 by decide) (Jkb iT (by omega)).2.1]
   refine if_pos ?_
   show ((sT.tags.length : Nat) : Int) = 4
   rw [iT.t]
   rfl
  have e := eT (2 * t - 9 + 4 * v + q + 1)
  rw [show 2 * 4 + (2 * t - 9 + 4 * v + q + 1) = 2 * t + 4 * v + q by omega, Jlv hx (by rw [h3]; decide), h3] at e
  rw [e, hb]
  exact ⟨fun _ => ⟨rfl, rfl⟩, fun h => absurd h (by omega)⟩
 have hm : min t 4 = t := by omega
 rw [hm] at eT iT
 have e2 := eT (4 * v + q)
 rw [show 2 * t + (4 * v + q) = 2 * t + 4 * v + q by omega] at e2
 rw [e2]
 obtain ⟨sV, eV, iV⟩ := JkK (E := E) (I := fun i s => SegI (Jk5 q v t r) (1 + 2 * r + 2 * t + 4 * i) s r t i 0) (sz := 4) (p0 := 1 + 2 * r + 2 * t) (c := min v 16) (go_V hv ht hr) (min v 16) _ (Nat.le_refl _) iT
 by_cases b3 : 16 < v
 ·have hm : min v 16 = 16 := by omega
  rw [hm] at eV iV
  have hb : badN q v t r = 1 + 2 * r + 2 * t + 64 := by unfold badN; rw [if_neg b1, if_neg b2, if_pos b3]
  have a := Jkt (q := q) (v := v) (t := t) (i := 16) (r := r) (by omega) (j := 0) (by decide)
  have hx : sV.rows[1 + 2 * r + 2 * t + 4 * 16]? = some (rowK 4 (numB 118 16) 3) := (iV.later _ (Nat.le_refl _)).trans a
  have h3 : J25 (rowK 4 (numB 118 16) 3) sV = 3 := by
   rw [Jkg (show J0j 4 ≠ 0 by decide) (Jkb iV (by omega)).2.2.1]
   refine if_pos ?_
   show ((sV.vars.length : Nat) : Int) = 16
   rw [iV.v]
   rfl
  have e := eV (4 * v - 65 + q + 1)
  rw [show 4 * 16 + (4 * v - 65 + q + 1) = 4 * v + q by omega, Jlv hx (by rw [h3]; decide), h3] at e
  rw [e, hb]
  exact ⟨fun _ => ⟨rfl, rfl⟩, fun h => absurd h (by omega)⟩
 have hm : min v 16 = v := by omega
 rw [hm] at eV iV
 have e3 := eV q
 rw [e3]
 obtain ⟨sQ, eQ, iQ⟩ := JkK (E := E) (I := fun i s => SegI (Jk5 q v t r) (1 + 2 * r + 2 * t + 4 * v + 1 * i) s r t v i) (sz := 1) (p0 := 1 + 2 * r + 2 * t + 4 * v) (c := min q 16) (go_Q hq hv ht hr) (min q 16) _ (Nat.le_refl _) iV
 by_cases b4 : 16 < q
 ·have hm : min q 16 = 16 := by omega
  rw [hm] at eQ iQ
  have hb : badN q v t r = 1 + 2 * r + 2 * t + 4 * v + 16 := by unfold badN; rw [if_neg b1, if_neg b2, if_neg b3, if_pos b4]
  have a := Jlh (q := q) (v := v) (t := t) (i := 16) (r := r) (by omega)
  have hx : sQ.rows[1 + 2 * r + 2 * t + 4 * v + 1 * 16]? = some (rowK 2 (numB 113 16) 0) := (iQ.later _ (Nat.le_refl _)).trans a
  have h3 : J25 (rowK 2 (numB 113 16) 0) sQ = 3 := by
   rw [Jkg (show J0j 2 ≠ 0 by decide) (Jkb iQ (by omega)).2.2.2]
   refine if_pos ?_
   show ((sQ.queues.length : Nat) : Int) = 16
   rw [iQ.q]
   rfl
  have e := eQ (q - 17 + 1)
  rw [show 1 * 16 + (q - 17 + 1) = q by omega, Jlv hx (by rw [h3]; decide), h3] at e
  rw [e, hb]
  exact ⟨fun _ => ⟨rfl, rfl⟩, fun h => absurd h (by omega)⟩
 have hm : min q 16 = q := by omega
 rw [hm] at eQ iQ
 have e4 := eQ 0
 rw [Nat.one_mul, Nat.add_zero] at e4
 rw [e4]
 have hb : badN q v t r = 0 := by unfold badN; rw [if_neg b1, if_neg b2, if_neg b3, if_neg b4]
 rw [hb]
 rw [Nat.one_mul] at iQ
 exact ⟨fun h => absurd h (by decide), fun _ => ⟨sQ, rfl, iQ⟩⟩
theorem Jl2 {rows : List RowN} {E S : List Int} : ∀ (l : List RowN) (k : Nat) (n : Int), (∀ x ∈ l, J0E x.kind = false) → J5r rows E S l k n = -1
 | [], k, n, _ => rfl
 | x :: l, k, n, h => by
  unfold J5r
  rw [if_pos (h x (List.mem_cons_self ..))]
  exact Jl2 l (k + 1) n fun y hy => h y (List.mem_cons_of_mem _ hy)
theorem Jmg (hq : q < 70) (hv : v < 70) (ht : t < 70) (hr : r < 70) : (resN (Jk5 q v t r)).1 = (if 0 < badN q v t r then (3, (badN q v t r : Int)) else (0, 0)) ∧
  (badN q v t r = 0 → (resN (Jk5 q v t r)).2.queues.length = q ∧ (resN (Jk5 q v t r)).2.vars.length = v ∧ (resN (Jk5 q v t r)).2.tags.length = t ∧ (resN (Jk5 q v t r)).2.rules.length = r ∧ (resN (Jk5 q v t r)).2.on.length = q) := by
 have hc := JlA hq hv ht hr
 obtain ⟨g1, g2⟩ := JmH (E := J0o (Jk5 q v t r)) hq hv ht hr
 have e0 : resN (Jk5 q v t r) = if (goN (J0o (Jk5 q v t r)) (Jk5 q v t r).length 0 (s0N (Jk5 q v t r))).1 ≠ 0 then (((goN (J0o (Jk5 q v t r)) (Jk5 q v t r).length 0 (s0N (Jk5 q v t r))).1, ((goN (J0o (Jk5 q v t r)) (Jk5 q v t r).length 0 (s0N (Jk5 q v t r))).2.1 : Int)), s0N (Jk5 q v t r)) else if J2K (goN (J0o (Jk5 q v t r)) (Jk5 q v t r).length 0 (s0N (Jk5 q v t r))).2.2.rows (J0o (Jk5 q v t r)) (goN (J0o (Jk5 q v t r)) (Jk5 q v t r).length 0 (s0N (Jk5 q v t r))).2.2.rules ≥ 0 then ((34, J2K (goN (J0o (Jk5 q v t r)) (Jk5 q v t r).length 0 (s0N (Jk5 q v t r))).2.2.rows (J0o (Jk5 q v t r)) (goN (J0o (Jk5 q v t r)) (Jk5 q v t r).length 0 (s0N (Jk5 q v t r))).2.2.rules), s0N (Jk5 q v t r)) else ((0, 0), (goN (J0o (Jk5 q v t r)) (Jk5 q v t r).length 0 (s0N (Jk5 q v t r))).2.2) := by
  unfold resN
  rw [if_neg (fun h => h (by rw [hc]))]
 by_cases hb : 0 < badN q v t r
 ·obtain ⟨h1, h2⟩ := g1 hb
  rw [e0, h1, h2, if_pos (by decide), if_pos hb]
  exact ⟨rfl, fun h => by omega⟩
 ·obtain ⟨s, h1, h2⟩ := g2 (by omega)
  have ht' := J8d (J5d (l := Jk5 q v t r) (by rw [hc]))
  have hi := JfJ ht' J3T (Jk5 q v t r).length 0 (s0N (Jk5 q v t r)) (by omega) (inv0 _) (by rw [h1])
  rw [h1] at hi
  have hlg : J2K s.rows (J0o (Jk5 q v t r)) s.rules = -1 := Jl2 _ _ _ fun x hx => by
   obtain ⟨i, hi'⟩ := List.getElem?_of_mem hx
   obtain ⟨y, hy, he⟩ := hi.same i x hi'
   rw [show x.kind = y.kind by rw [he]]
   by_cases h0 : i = 0
   ·subst h0
    rw [JlU] at hy
    cases hy
    rfl
   ·rcases Jkz hy (by omega) with ⟨_, _, ⟨_, rfl⟩ | ⟨_, rfl⟩⟩ | ⟨_, _, ⟨_, rfl⟩ | ⟨_, rfl⟩⟩ | ⟨_, _, ⟨_, rfl⟩ | ⟨_, _, _, rfl⟩⟩ | ⟨_, _, _, rfl⟩ <;> rfl
  rw [e0, h1]
  simp only
  rw [if_neg (fun h => h rfl), hlg, if_neg (by decide), if_neg hb]
  exact ⟨rfl, fun _ => ⟨h2.q, h2.v, h2.t, h2.u, h2.o⟩⟩
end
theorem JlG {call : J0r} {N : Nat} {h : SHeap} {a m : Int} (hm : 0 < m ∧ m < 1099511627776) : J0L Tryd.prog call N 25 [iv a, iv m] h = some (iv (a % m), h) := by
 refine J1m Tryd.func25 rfl (by simp [Tryd.f25]) ?_
 have hr : Tryd.f25.results.toList = [.tmp 4] := rfl
 have h1 := Jjy (P := Tryd.prog) (t := 3) (x := .tmp 6) (y := .tmp 7) (k := .i64) (a := a) (show m ≠ 0 by omega)
 have h2 := Int.tmod_add_mul_tdiv a m
 have h3 := Int.emod_add_mul_ediv a m
 have h4 := Int.emod_nonneg a (show m ≠ 0 by omega)
 have h5 := Int.emod_lt_of_pos a hm.1
 have h6 := Int.tmod_lt_of_pos a hm.1
 have h7 : -m < a.tmod m := by
  have := Int.tmod_lt_of_pos (-a) hm.1
  rw [Int.neg_tmod] at this
  omega
 have h8 : (a - a.tmod m) % m = 0 := by rw [show a - a.tmod m = m * (a.tdiv m) by omega]; exact Int.mul_emod_right _ _
 have h9 : a % m = (a.tmod m) % m := by
  have := Int.emod_emod_of_dvd a (Int.dvd_refl m)
  have e := Int.add_emod (a - a.tmod m) (a.tmod m) m
  rw [Int.sub_add_cancel, h8, Int.zero_add, Int.emod_emod] at e
  exact e
 cases d : decide (a.tmod m < 0) with
 | true =>
  have d' := of_decide_eq_true d
  have w : IntKind.i64.wrap (a.tmod m + m) = a % m := by
   rw [J0s (by omega) (by omega), h9, ← Int.add_emod_right, Int.emod_eq_of_lt (by omega) (by omega)]
  simp only [evC, seval, ↓evP, hr, h1, d, w]
 | false =>
  have d' := of_decide_eq_false d
  have w : a.tmod m = a % m := by rw [h9, Int.emod_eq_of_lt (by omega) (by omega)]
  rw [w] at d h1
  simp only [evC, seval, ↓evP, hr, h1, d]
theorem Jla {n : Nat} {h : SHeap} {a m : Int} (hm : 0 < m ∧ m < 1099511627776) (hn : 0 < n) : J0T n 25 [iv a, iv m] h = some (iv (a % m), h) := by
 obtain ⟨n, rfl⟩ : ∃ j, n = j + 1 := ⟨n - 1, by omega⟩
 exact J6r (J13 ⟨rfl, rfl, rfl⟩) rfl (JlG hm)
theorem J0p.put {lo : Nat} {h : SHeap} {v : Value} {n w : Nat} {cs : List Value} (hc : J0p lo h v n w cs) {id q : Nat} {R : List Value} {ty : TypeId} {g : Bool} {a b : Int} (hg : h.get id = .row R ty g false) (hid : id < h.next) (hq : R[q]? = some (iv a)) (hno : ∀ x ∈ cs, ∀ c, x ≠ iv c) :
  J0p lo (h.put id (.row (R.set q (iv b)) ty g false)) v n w cs := by
 obtain ⟨hl, ad, c, rfl, h1 | ⟨i, off, row, ty', g', ro, rfl, h1, h2, h3, h4⟩⟩ := hc
 ·exact ⟨hl, _, _, rfl, .inl h1⟩
 ·by_cases hi : i = id
  ·subst hi
   rw [hg] at h1
   cases h1
   refine ⟨hl, _, _, rfl, .inr ⟨i, off, _, _, _, _, rfl, J0b rfl hid, h2, ?_, h4⟩⟩
   rw [← h3]
   apply List.ext_getElem?
   intro j
   rw [List.getElem?_take, List.getElem?_take]
   split
   ·rename_i hj
    rw [List.getElem?_drop, List.getElem?_drop, List.getElem?_set]
    split
    ·rename_i hqj
     exfalso
     have : cs[j]? = some (iv a) := by rw [← h3, List.getElem?_take_of_lt hj, List.getElem?_drop, ← hqj]; exact hq
     exact hno _ (List.mem_of_getElem? this) a rfl
    ·rfl
   ·rfl
  ·exact ⟨hl, _, _, rfl, .inr ⟨i, off, row, ty', g', ro, rfl, by rw [J05 hid (Ne.symm hi)]; exact h1, h2, h3, h4⟩⟩
theorem J1S.put {lo : Nat} {h : SHeap} {v : Value} {l : List Int} (hc : J1S lo h v l) {id q : Nat} {R : List Value} {ty : TypeId} {g : Bool} {b : Int} (hg : h.get id = .row R ty g false) (hid : id < h.next) :
  ∃ l', l'.length = l.length ∧ J1S lo (h.put id (.row (R.set q (iv b)) ty g false)) v l' := by
 obtain ⟨hl, ad, c, rfl, h1 | ⟨i, off, row, ty', g', ro, rfl, h1, h2, h3, h4⟩⟩ := hc
 ·exact ⟨l, rfl, hl, _, _, rfl, .inl h1⟩
 ·by_cases hi : i = id
  ·subst hi
   rw [hg] at h1
   cases h1
   refine ⟨if off ≤ q then l.set (q - off) b else l, by split <;> simp, ?_⟩
   have hlen : (if off ≤ q then l.set (q - off) b else l).length = l.length := by split <;> simp
   refine ⟨by rw [J1h, Nat.mul_one], _, _, by rw [hlen], .inr ⟨i, off, _, _, _, _, rfl, J0b rfl hid, h2, ?_, h4⟩⟩
   rw [hlen]
   apply List.ext_getElem?
   intro j
   have hj3 : ((R.drop off).take (l.length * 1))[j]? = (ints l)[j]? := by rw [h3]
   rw [List.getElem?_take] at hj3 ⊢
   split
   ·rename_i hj
    rw [if_pos hj, List.getElem?_drop] at hj3
    rw [List.getElem?_drop, List.getElem?_set]
    split
    ·rename_i hqj
     have h7 : off + j < R.length := by
      rcases Nat.lt_or_ge (off + j) R.length with h9 | h9
      ·exact h9
      ·rw [List.getElem?_eq_none h9, J6g, List.getElem?_eq_getElem (by omega)] at hj3
       cases hj3
     rw [if_pos (by omega), J6g, if_pos (by omega), List.getElem?_set, if_pos (by omega), if_pos (by omega)]
     rfl
    ·rename_i hqj
     rw [hj3, J6g, J6g]
     split
     ·rw [List.getElem?_set_ne (by omega)]
     ·rfl
   ·rename_i hj
    rw [List.getElem?_eq_none (by rw [J1h, hlen]; omega)]
  ·exact ⟨l, rfl, hl, _, _, rfl, .inr ⟨i, off, row, ty', g', ro, rfl, by rw [J05 hid (Ne.symm hi)]; exact h1, h2, h3, h4⟩⟩
end Go.Proofs.YtipekdhneagdbaaDoor
