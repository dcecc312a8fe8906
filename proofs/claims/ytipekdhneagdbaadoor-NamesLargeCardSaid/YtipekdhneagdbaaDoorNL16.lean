/- Part 16 of what the claim leans on: 12 texts laid one behind another. -/
import Derived.Test.YtipekdhneagdbaaDoorNL15
import Derived.WalkKit
import Derived.Carry
import Derived.ChangeSlices
namespace Go.Proofs.YtipekdhneagdbaaDoor
open Go Go.Sx Go.ChangeShapes Go.WideShapes Go.ChangeAt Go.RowKit
set_option maxRecDepth 100000
set_option linter.unusedSimpArgs false
set_option linter.unusedVariables false
theorem Jee : laidOutB Tryd.prog = true := by kernel_rfl
theorem J7M {H : Type} {enc : TypeId × Value → H} {W W' : World} (hb : Below W.heap.size W W') {sp : Nat → Bool} : ∀ (ts : List TypeId) (vs : List Value) (ds : List (DataW H)) (ps : List MemPlace),
  (ts.all fun t => Tryd.prog.readableRec t && decide (t < Tryd.prog.types.size)) = true → DataW.TrodAll enc Tryd.prog W 0 (fun _ => true) true ts vs ds ps → (∀ p ∈ ps, p.block < W.heap.size) → (∀ p ∈ ps, sp p.block = true) → DataW.TrodAll enc Tryd.prog W' 0 sp true ts vs ds ps := by
 intro ts
 induction ts with
 | nil =>
  intro vs ds ps _ h _ _
  cases vs <;> cases ds <;> first | exact h | exact h.elim
 | cons t ts ih =>
  intro vs ds ps ht h hlt hs
  cases vs with
  | nil => cases ds <;> exact h.elim
  | cons v vs =>
   cases ds with
   | nil => exact h.elim
   | cons d ds =>
    obtain ⟨p, q, h1, h2, rfl⟩ := h
    simp only [List.all_cons, Bool.and_eq_true, decide_eq_true_eq] at ht
    exact ⟨p, q, WideElems.Trod_stays Jee ht.1.1 ht.1.2 h1 (fun x hx => hb.same (hlt x (List.mem_append_left _ hx))) (fun x hx => hs x (List.mem_append_left _ hx)),
     ih vs ds q (by simpa using ht.2) h2 (fun x hx => hlt x (List.mem_append_right _ hx)) (fun x hx => hs x (List.mem_append_right _ hx)), rfl⟩
end Go.Proofs.YtipekdhneagdbaaDoor
namespace Go.Proofs.YtipekdhneagdbaaDoor
open Go Go.Sx
set_option maxRecDepth 100000
set_option linter.unusedSimpArgs false
set_option linter.unusedVariables false
def J5z (a b : RowN) : Bool := a.kind == b.kind && (a.name == b.name && (a.ends == b.ends && (a.n == b.n && a.kids == b.kids)))
theorem eqs {P : Program} {t : TypeId} {a b : ByteArray} (h : P.underlying t = some .string) (d : Nat) : J0k P (Op.equalIn (d + 1) t (.string a) (.string b)) = some (a == b) := by
 rw [Op.equalIn, J0c, J1R h]
 simp [J0C]
theorem eqb {P : Program} {t : TypeId} {a b : Bool} (h : P.underlying t = some .bool) (d : Nat) : J0k P (Op.equalIn (d + 1) t (.bool a) (.bool b)) = some (a == b) := by
 rw [Op.equalIn, J0c, J1R h]
 simp [J0C]
theorem JdG : Tryd.prog.eqGuardType Tryd.prog.depth 46 = false := by kernel_rfl
theorem JfU : Tryd.prog.stoodInHeld 46 = false := by kernel_rfl
theorem JcM : Tryd.prog.eqGuardType Tryd.prog.depth 57 = false := by kernel_rfl
theorem Jgu : Tryd.prog.stoodInHeld 57 = false := by kernel_rfl
theorem J3f {a c d e : Int} {b : ByteArray} : J0k Tryd.prog (part 3 #[.int .i64 a, .string b, .int .i64 c, .int .i64 d, .int .i64 e] 0) = some (.int .i64 a) ∧ J0k Tryd.prog (part 9 #[.int .i64 a, .string b, .int .i64 c, .int .i64 d, .int .i64 e] 1) = some (.string b) ∧ J0k Tryd.prog (part 3 #[.int .i64 a, .string b, .int .i64 c, .int .i64 d, .int .i64 e] 2) = some (.int .i64 c) ∧
  J0k Tryd.prog (part 3 #[.int .i64 a, .string b, .int .i64 c, .int .i64 d, .int .i64 e] 3) = some (.int .i64 d) ∧ J0k Tryd.prog (part 3 #[.int .i64 a, .string b, .int .i64 c, .int .i64 d, .int .i64 e] 4) = some (.int .i64 e) := ⟨rfl, rfl, rfl, rfl, rfl⟩
theorem JeF {a : ByteArray} {b : Bool} : J0k Tryd.prog (part 9 #[.string a, .bool b] 0) = some (.string a) ∧ J0k Tryd.prog (part 4 #[.string a, .bool b] 1) = some (.bool b) := ⟨rfl, rfl⟩
theorem Jgj {a b : RowN} (n : Nat) : J0k Tryd.prog (Op.equalIn (n + 2) 46 (rowV a) (rowV b)) = some (J5z a b) := by
 obtain ⟨a1, a2, a3, a4, a5⟩ := a
 obtain ⟨b1, b2, b3, b4, b5⟩ := b
 show J0k Tryd.prog (Op.equalIn (n + 2) 46 (.agg #[.int .i64 a1, .string a2, .int .i64 a3, .int .i64 a4, .int .i64 a5]) (.agg #[.int .i64 b1, .string b2, .int .i64 b3, .int .i64 b4, .int .i64 b5])) = some (a1 == b1 && (a2 == b2 && (a3 == b3 && (a4 == b4 && a5 == b5))))
 rw [Op.equalIn, J0c, J1R Tryd.underlying46]
 simp only [Option.bind_some, J0c, J1a, JfU, Bool.false_eq_true, if_false, J0C]
 simp only [List.forIn_toArray, List.forIn_cons, List.forIn_nil, ne_eq, String.reduceEq, not_false_eq_true, if_true, J0c, J3f.1, J3f.2.1, J3f.2.2.1, J3f.2.2.2.1, J3f.2.2.2.2, Option.bind_some, eqi Tryd.underlying3, eqs Tryd.underlying9]
 cases h1 : (a1 == b1) <;> simp [J0c, J0C, J3f.1, J3f.2.1, J3f.2.2.1, J3f.2.2.2.1, J3f.2.2.2.2, eqi Tryd.underlying3, eqs Tryd.underlying9, h1, -beq_iff_eq, -beq_eq_false_iff_ne]
 cases h2 : (a2 == b2) <;> simp [J0c, J0C, J3f.1, J3f.2.1, J3f.2.2.1, J3f.2.2.2.1, J3f.2.2.2.2, eqi Tryd.underlying3, eqs Tryd.underlying9, h2, -beq_iff_eq, -beq_eq_false_iff_ne]
 cases h3 : (a3 == b3) <;> simp [J0c, J0C, J3f.1, J3f.2.1, J3f.2.2.1, J3f.2.2.2.1, J3f.2.2.2.2, eqi Tryd.underlying3, eqs Tryd.underlying9, h3, -beq_iff_eq, -beq_eq_false_iff_ne]
 cases h4 : (a4 == b4) <;> simp [J0c, J0C, J3f.1, J3f.2.1, J3f.2.2.1, J3f.2.2.2.1, J3f.2.2.2.2, eqi Tryd.underlying3, eqs Tryd.underlying9, h4, -beq_iff_eq, -beq_eq_false_iff_ne]
 cases h5 : (a5 == b5) <;> simp [J0c, J0C, h5, -beq_iff_eq, -beq_eq_false_iff_ne]
theorem Jhb {a c : ByteArray} {b d : Bool} (n : Nat) : J0k Tryd.prog (Op.equalIn (n + 2) 57 (.agg #[.string a, .bool b]) (.agg #[.string c, .bool d])) = some (a == c && b == d) := by
 rw [Op.equalIn, J0c, J1R Tryd.underlying57]
 simp only [Option.bind_some, J0c, J1a, Jgu, Bool.false_eq_true, if_false, J0C]
 simp only [List.forIn_toArray, List.forIn_cons, List.forIn_nil, ne_eq, String.reduceEq, not_false_eq_true, if_true, J0c, JeF.1, JeF.2, Option.bind_some, eqs Tryd.underlying9, eqb Tryd.underlying4]
 cases h1 : (a == c) <;> simp [J0c, J0C, JeF.1, JeF.2, eqs Tryd.underlying9, eqb Tryd.underlying4, h1, -beq_iff_eq, -beq_eq_false_iff_ne]
 cases h2 : (b == d) <;> simp [J0c, J0C, h2, -beq_iff_eq, -beq_eq_false_iff_ne]
theorem J8z {a : RowN} : flat (rowV a) = true := rfl
theorem J7d {a : ByteArray} {b : Bool} : flat (.agg #[.string a, .bool b]) = true := rfl
section
variable {x y : Operand}
theorem JhG (op : BinOp) (neg : Bool) (hop : op = if neg then .neq else .eql) {a b : RowN} : binS Tryd.prog op 46 x y (rowV a) (rowV b) = some (.bool (if neg then !(J5z a b) else J5z a b)) := by
 have k : J0k Tryd.prog (Op.equal 46 (rowV a) (rowV b)) = some (J5z a b) := Jgj 9998
 cases neg with
 | true =>
  subst hop
  have e : J0k Tryd.prog (do eqGuard .neq 46 x y (rowV a) (rowV b); binOp .neq 46 (rowV a) (rowV b)) = some (.bool (!(J5z a b))) := by
   rw [J0c]
   have g : J0k Tryd.prog (eqGuard .neq 46 x y (rowV a) (rowV b)) = some () := by
    unfold eqGuard
    simp [J0c, J1a, J0C, JdG]
   rw [g]
   show J0k Tryd.prog ((do pure (.bool (!(← Op.equal 46 (rowV a) (rowV b))))) : Sem Value) = _
   rw [J0c, k]
   rfl
  simp only [binS, J8z, Bool.and_self, if_true, e, J2F]
 | false =>
  subst hop
  have e : J0k Tryd.prog (do eqGuard .eql 46 x y (rowV a) (rowV b); binOp .eql 46 (rowV a) (rowV b)) = some (.bool (J5z a b)) := by
   rw [J0c]
   have g : J0k Tryd.prog (eqGuard .eql 46 x y (rowV a) (rowV b)) = some () := by
    unfold eqGuard
    simp [J0c, J1a, J0C, JdG]
   rw [g]
   show J0k Tryd.prog ((do pure (.bool (← Op.equal 46 (rowV a) (rowV b)))) : Sem Value) = _
   rw [J0c, k]
   rfl
  simp only [Bool.false_eq_true, if_false, binS, J8z, Bool.and_self, if_true, e, J2F]
theorem J6U {a b : RowN} : binS Tryd.prog .neq 46 x y (rowV a) (rowV b) = some (.bool (!(J5z a b))) := JhG .neq true rfl
theorem Jie (op : BinOp) (neg : Bool) (hop : op = if neg then .neq else .eql) {a c : ByteArray} {b d : Bool} : binS Tryd.prog op 57 x y (.agg #[.string a, .bool b]) (.agg #[.string c, .bool d]) = some (.bool (if neg then !(a == c && b == d) else (a == c && b == d))) := by
 have k : J0k Tryd.prog (Op.equal 57 (.agg #[.string a, .bool b]) (.agg #[.string c, .bool d])) = some (a == c && b == d) := Jhb 9998
 cases neg with
 | true =>
  subst hop
  have e : J0k Tryd.prog (do eqGuard .neq 57 x y (.agg #[.string a, .bool b]) (.agg #[.string c, .bool d]); binOp .neq 57 (.agg #[.string a, .bool b]) (.agg #[.string c, .bool d])) = some (.bool (!(a == c && b == d))) := by
   rw [J0c]
   have g : J0k Tryd.prog (eqGuard .neq 57 x y (.agg #[.string a, .bool b]) (.agg #[.string c, .bool d])) = some () := by
    unfold eqGuard
    simp [J0c, J1a, J0C, JcM]
   rw [g]
   show J0k Tryd.prog ((do pure (.bool (!(← Op.equal 57 (.agg #[.string a, .bool b]) (.agg #[.string c, .bool d]))))) : Sem Value) = _
   rw [J0c, k]
   rfl
  simp only [binS, J7d, Bool.and_self, if_true, e, J2F]
 | false =>
  subst hop
  have e : J0k Tryd.prog (do eqGuard .eql 57 x y (.agg #[.string a, .bool b]) (.agg #[.string c, .bool d]); binOp .eql 57 (.agg #[.string a, .bool b]) (.agg #[.string c, .bool d])) = some (.bool (a == c && b == d)) := by
   rw [J0c]
   have g : J0k Tryd.prog (eqGuard .eql 57 x y (.agg #[.string a, .bool b]) (.agg #[.string c, .bool d])) = some () := by
    unfold eqGuard
    simp [J0c, J1a, J0C, JcM]
   rw [g]
   show J0k Tryd.prog ((do pure (.bool (← Op.equal 57 (.agg #[.string a, .bool b]) (.agg #[.string c, .bool d])))) : Sem Value) = _
   rw [J0c, k]
   rfl
  simp only [Bool.false_eq_true, if_false, binS, J7d, Bool.and_self, if_true, e, J2F]
theorem J6H {a c : ByteArray} {b d : Bool} : binS Tryd.prog .neq 57 x y (.agg #[.string a, .bool b]) (.agg #[.string c, .bool d]) = some (.bool (!(a == c && b == d))) := Jie .neq true rfl
end
theorem Jcs {a b : ByteArray} : (a == b) = true ↔ a = b := by
 obtain ⟨a⟩ := a
 obtain ⟨b⟩ := b
 show (a == b) = true ↔ _
 rw [beq_iff_eq, ByteArray.mk.injEq]
theorem J6E {a b : RowN} : J5z a b = true ↔ a = b := by
 obtain ⟨a1, a2, a3, a4, a5⟩ := a
 obtain ⟨b1, b2, b3, b4, b5⟩ := b
 unfold J5z
 simp only [Bool.and_eq_true, beq_iff_eq, Jcs, RowN.mk.injEq]
theorem JfF {lo : Nat} {h : SHeap} {v : Value} {n w : Nat} {cs : List Value} (hc : J0p lo h v n w cs) (h' : SHeap) : lenS Tryd.prog h' 28 v = some (iv (n : Int)) := J0p.len hc Tryd.underlying28
theorem JfT {lo : Nat} {h : SHeap} {v : Value} {n w : Nat} {cs : List Value} (hc : J0p lo h v n w cs) (h' : SHeap) : lenS Tryd.prog h' 27 v = some (iv (n : Int)) := J0p.len hc Tryd.underlying27
theorem JfC {lo : Nat} {h : SHeap} {v : Value} {n w : Nat} {cs : List Value} (hc : J0p lo h v n w cs) (h' : SHeap) : lenS Tryd.prog h' 26 v = some (iv (n : Int)) := J0p.len hc Tryd.underlying26
theorem JfA {lo : Nat} {h : SHeap} {v : Value} {n w : Nat} {cs : List Value} (hc : J0p lo h v n w cs) (h' : SHeap) : lenS Tryd.prog h' 22 v = some (iv (n : Int)) := J0p.len hc Tryd.underlying22
theorem Ja3 {l : List ByteArray} {i : Nat} {x : ByteArray} (hx : l[i]? = some x) {lo : Nat} {h : SHeap} {v : Value} (hc : J0p lo h v l.length 1 (strs l)) : ∃ id p, J0R Tryd.prog 27 v (iv (i : Int)) = some (.pointer (some ⟨id, p, none⟩)) ∧ id < h.next ∧ ld1 p (h.get id) = some (.string x) := by
 obtain ⟨id, p, h1, h2, h3⟩ := J0p.idx hc Tryd.underlying27 sz9 (List.getElem?_eq_some_iff.1 hx).1
 refine ⟨id, p, h1, h2, ?_⟩
 have := h3 0 (by decide)
 rw [Nat.add_zero] at this
 rw [this, Nat.mul_one, Nat.add_zero, strs, List.getElem?_map, hx]
 rfl
theorem J7n : ∀ {l : List (ByteArray × Bool)} {i : Nat} {x : ByteArray × Bool}, l[i]? = some x → ((J3S l).drop (i * 2)).take 2 = [.string x.1, .bool x.2]
 | [], i, x, h => by simp at h
 | q :: l, 0, x, h => by
  simp only [List.getElem?_cons_zero, Option.some.injEq] at h
  subst h
  rfl
 | q :: l, i + 1, x, h => by
  have := J7n (l := l) (i := i) (x := x) (by simpa using h)
  rw [← this, show (i + 1) * 2 = i * 2 + 2 by omega]
  rfl
theorem J8S {l : List (ByteArray × Bool)} {i : Nat} {x : ByteArray × Bool} (hx : l[i]? = some x) {lo : Nat} {h : SHeap} {v : Value} (hc : J0p lo h v l.length 2 (J3S l)) : ∃ id p, J0R Tryd.prog 26 v (iv (i : Int)) = some (.pointer (some ⟨id, p, none⟩)) ∧ id < h.next ∧ ldN 2 p (h.get id) = some (.agg #[.string x.1, .bool x.2]) := by
 obtain ⟨id, p, h1, h2, h3⟩ := J0p.whole hc Tryd.underlying26 sz57 (List.getElem?_eq_some_iff.1 hx).1
 rw [J7n hx] at h3
 exact ⟨id, p, h1, h2, h3⟩
theorem J4S {α : Type} {A B : List α} (hl : A.length = B.length) (h : ∀ j, j < A.length → A[j]? = B[j]?) : A = B := by
 apply List.ext_getElem?
 intro j
 rcases Nat.lt_or_ge j A.length with h1 | h1
 ·exact h j h1
 ·rw [List.getElem?_eq_none h1, List.getElem?_eq_none (by omega)]
theorem Jj5 : J2X Tryd.prog 57 = some true := by kernel_rfl
theorem J3z {h : SHeap} {id off : Nat} : J2x Tryd.prog h 57 (.pointer (some ⟨id, off, none⟩)) = ldN 2 off (h.get id) := J5S Jj5 sz57
section
variable {call : J0r} {N : Nat} {h : SHeap}
end
section
variable {call : J0r} {N : Nat} {h : SHeap}
end
def J5b (nm nm' : ByteArray) (s s' : StN) : Prop := nm = nm' ∧ s.miss = s'.miss ∧ s.rows = s'.rows ∧ s.queues = s'.queues ∧ s.vars = s'.vars ∧ s.tags = s'.tags ∧ s.rules = s'.rules ∧ s.on = s'.on
theorem Jhw {a b c d e f g i : Value} {ty : TypeId} {x y : Bool} : ld1 0 (.row [a, b, c, d, e, f, g, i] ty x y) = some a ∧ ld1 1 (.row [a, b, c, d, e, f, g, i] ty x y) = some b ∧ ld1 2 (.row [a, b, c, d, e, f, g, i] ty x y) = some c ∧ ld1 3 (.row [a, b, c, d, e, f, g, i] ty x y) = some d ∧ ld1 4 (.row [a, b, c, d, e, f, g, i] ty x y) = some e ∧ ld1 5 (.row [a, b, c, d, e, f, g, i] ty x y) = some f ∧ ld1 6 (.row [a, b, c, d, e, f, g, i] ty x y) = some g ∧ ld1 7 (.row [a, b, c, d, e, f, g, i] ty x y) = some i := ⟨rfl, rfl, rfl, rfl, rfl, rfl, rfl, rfl⟩
def JdC (s : StN) : Prop := s.rows.length < 1000000000 ∧ s.queues.length < 1000000000 ∧ s.vars.length < 1000000000 ∧ s.tags.length < 1000000000 ∧ s.rules.length < 1000000000 ∧ s.on.length < 1000000000
def Jbg (s : StN) : Nat := s.rows.length + s.queues.length + s.vars.length + s.tags.length + s.rules.length + s.on.length
section
variable {n N : Nat}
end
instance : DecidableEq RowN := fun _ _ => decidable_of_decidable_of_iff J6E
def Jmj : List (Bool × Bool × List Operand) := [(false, true, []), (false, true, []), (false, true, []), (false, true, []), (false, true, [.tmp 18]), (false, true, [.tmp 18]), (false, true, [.tmp 18]), (false, true, [.tmp 18]), (false, false, [])]
noncomputable def Jmx : Array Oper := J18 Tryd.f69 6
theorem Jmi : J1E Jmx = Jmj := by kernel_rfl
set_option maxHeartbeats 4000000 in
theorem Jm8 {call : J0r} {N : Nat} {h : SHeap} (hsn : J1G call) {va vb : Value} {A B : List Int} {la lb : Nat} (ha : J1S la h va A) (hb : J1S lb h vb B) (hN : A.length + 3 < N) (hl : A.length < 1099511627776) : J0L Tryd.prog call N 69 [va, vb] h = some (.bool (decide (A = B)), h) := by
 refine J1m Tryd.func69 rfl (by simp [Tryd.f69]) ?_
 have hr : Tryd.f69.results.toList = [.tmp 4] := rfl
 have lA := fun h' => JfF ha h'
 have lB := fun h' => JfF hb h'
 cases d : ((A.length : Int) != (B.length : Int)) with
 | true =>
  have hne : A ≠ B := fun e => by subst e; simp at d
  rw [decide_eq_false hne]
  simp only [evC, ↓reduceIte, Nat.reduceEqDiff, reduceCtorEq, ↓evP, hr, lA, lB, d]
 | false =>
  have hlen : A.length = B.length := by
   have h9 : (A.length : Int) = (B.length : Int) := by simpa using d
   omega
  simp only [evC, ↓reduceIte, Nat.reduceEqDiff, reduceCtorEq, ↓evP, lA, lB, d]
  refine WK.loop (fun i s' => s'.T.get 0 = va ∧ s'.T.get 1 = vb ∧ s'.T.get 12 = iv A.length ∧ s'.T.get 13 = iv i ∧ s'.h = h ∧ i ≤ A.length ∧ ∀ j, j < i → A[j]? = B[j]?) A.length (by omega) ?_ ?_
  ·exact ⟨by simp only [evC, ↓reduceIte, Nat.reduceEqDiff, reduceCtorEq, ↓evP, rpC, Nat.reduceAdd, Nat.reduceLT], by simp only [evC, ↓reduceIte, Nat.reduceEqDiff, reduceCtorEq, ↓evP, rpC, Nat.reduceAdd, Nat.reduceLT], by simp only [evC, ↓reduceIte, Nat.reduceEqDiff, reduceCtorEq, ↓evP, rpC, Nat.reduceAdd, Nat.reduceLT], by simp only [evC, ↓reduceIte, Nat.reduceEqDiff, reduceCtorEq, ↓evP, rpC, Nat.reduceAdd, Nat.reduceLT]; rfl, rfl, by omega, fun j hj => by omega⟩
  ·rintro i ⟨T1, H1⟩ hi ⟨t0, t1, t12, t13, hh, hil, hsame⟩
   simp only at t0 t1 t12 t13 hh
   subst hh
   by_cases hlt : i < A.length
   ·have c1 : decide ((i : Int) < (A.length : Int)) = true := by simp; omega
    obtain ⟨x, hx⟩ : ∃ x, A[i]? = some x := ⟨_, List.getElem?_eq_getElem hlt⟩
    obtain ⟨y, hy⟩ : ∃ y, B[i]? = some y := ⟨_, List.getElem?_eq_getElem (by omega)⟩
    obtain ⟨ida, pa, ea, _, xa⟩ := J1S.get ha hx
    obtain ⟨idb, pb, eb, _, xb⟩ := J1S.get hb hy
    have w1 : IntKind.i64.wrap ((i : Int) + 1) = ((i + 1 : Nat) : Int) := J0s (by omega) (by omega)
    simp only [evC, seval, ↓evP, t0, t1, t12, t13, c1]
    refine WK.flags (ops := Jmx) Jmi ?_
    refine WKF.begin ?_
    have FF := And.intro @t0 (And.intro @t1 (And.intro @t12 (And.intro @t13 (And.intro @ea (And.intro @eb (And.intro @J0m (And.intro @xa (And.intro @xb @J4h))))))))
    refine wst hsn 0 (some 16) (.move (.tmp 0)) none ?_
    simp only [rgC, seval, J04, J02, WKFC, FF]
    refine wst hsn 1 (some 17) (.move (.tmp 5)) none ?_
    simp only [rgC, seval, J04, J02, WKFC, FF]
    refine wst hsn 2 (some 18) (.indexAddr 28 (.tmp 16) (.tmp 17)) none ?_
    simp only [rgC, seval, J04, J02, WKFC, Nat.zero_add, FF]
    refine wst hsn 3 (some 19) (.load 3 (.tmp 18)) none ?_
    simp only [rgC, seval, J04, J02, WKFC, rgL, FF]
    refine wst hsn 4 (some 20) (.move (.tmp 1)) none ?_
    simp only [rgC, seval, J04, J02, WKFC, FF]
    refine wst hsn 5 (some 21) (.move (.tmp 5)) none ?_
    simp only [rgC, seval, J04, J02, WKFC, FF]
    refine wst hsn 6 (some 22) (.indexAddr 28 (.tmp 20) (.tmp 21)) none ?_
    simp only [rgC, seval, J04, J02, WKFC, Nat.zero_add, FF]
    refine wst hsn 7 (some 23) (.load 3 (.tmp 22)) none ?_
    simp only [rgC, seval, J04, J02, WKFC, rgL, FF]
    refine wst hsn 8 (some 24) (.binOp .neq 3 (.tmp 19) (.tmp 23) 3) none ?_
    simp only [rgC, seval, J04, J02, WKFC, rgB, FF]
    refine WKF.done (i := 9) (by kernel_rfl) ?_
    clear FF
    cases e : (x != y) with
    | true =>
     have hne : A ≠ B := fun h9 => by
      subst h9
      rw [hx] at hy
      cases hy
      simp at e
     rw [decide_eq_false hne]
     simp only [evC, seval, ↓evP, hr, e]
    | false =>
     have hxy : x = y := by simpa using e
     simp only [evC, seval, ↓evP, t0, t1, t12, t13, e, w1]
     refine ⟨by omega, by omega, fun j hj => ?_⟩
     rcases Nat.lt_or_ge j i with h1 | h1
     ·exact hsame j h1
     ·have : j = i := by omega
      subst this
      rw [hx, hy, hxy]
   ·have c1 : decide ((i : Int) < (A.length : Int)) = false := by simp; omega
    have : i = A.length := by omega
    subst this
    have hAB : A = B := J4S hlen hsame
    rw [decide_eq_true hAB]
    simp only [evC, seval, ↓evP, hr, t0, t1, t12, t13, c1]
theorem JmT {n : Nat} {h : SHeap} {va vb : Value} {A B : List Int} {la lb : Nat} (ha : J1S la h va A) (hb : J1S lb h vb B) (hl : A.length < 1000000000) (hn : A.length + 5 < n) : J0T n 69 [va, vb] h = some (.bool (decide (A = B)), h) := by
 obtain ⟨n, rfl⟩ : ∃ j, n = j + 1 := ⟨n - 1, by omega⟩
 exact J6r (J13 ⟨rfl, rfl, rfl⟩) rfl (Jm8 (J1z n).2 ha hb (by omega) (by omega))
noncomputable def Jmu : Array Oper := J18 Tryd.f68 6
theorem Jms : J1E Jmu = Jmj := by kernel_rfl
set_option maxHeartbeats 4000000 in
theorem Jmf {call : J0r} {N : Nat} {h : SHeap} (hsn : J1G call) {va vb : Value} {A B : List ByteArray} {la lb : Nat} (ha : J0p la h va A.length 1 (strs A)) (hb : J0p lb h vb B.length 1 (strs B)) (hN : A.length + 3 < N) (hl : A.length < 1099511627776) : J0L Tryd.prog call N 68 [va, vb] h = some (.bool (decide (A = B)), h) := by
 refine J1m Tryd.func68 rfl (by simp [Tryd.f68]) ?_
 have hr : Tryd.f68.results.toList = [.tmp 4] := rfl
 have lA := fun h' => JfT ha h'
 have lB := fun h' => JfT hb h'
 cases d : ((A.length : Int) != (B.length : Int)) with
 | true =>
  have hne : A ≠ B := fun e => by subst e; simp at d
  rw [decide_eq_false hne]
  simp only [evC, ↓reduceIte, Nat.reduceEqDiff, reduceCtorEq, ↓evP, hr, lA, lB, d]
 | false =>
  have hlen : A.length = B.length := by
   have h9 : (A.length : Int) = (B.length : Int) := by simpa using d
   omega
  simp only [evC, ↓reduceIte, Nat.reduceEqDiff, reduceCtorEq, ↓evP, lA, lB, d]
  refine WK.loop (fun i s' => s'.T.get 0 = va ∧ s'.T.get 1 = vb ∧ s'.T.get 12 = iv A.length ∧ s'.T.get 13 = iv i ∧ s'.h = h ∧ i ≤ A.length ∧ ∀ j, j < i → A[j]? = B[j]?) A.length (by omega) ?_ ?_
  ·exact ⟨by simp only [evC, ↓reduceIte, Nat.reduceEqDiff, reduceCtorEq, ↓evP, rpC, Nat.reduceAdd, Nat.reduceLT], by simp only [evC, ↓reduceIte, Nat.reduceEqDiff, reduceCtorEq, ↓evP, rpC, Nat.reduceAdd, Nat.reduceLT], by simp only [evC, ↓reduceIte, Nat.reduceEqDiff, reduceCtorEq, ↓evP, rpC, Nat.reduceAdd, Nat.reduceLT], by simp only [evC, ↓reduceIte, Nat.reduceEqDiff, reduceCtorEq, ↓evP, rpC, Nat.reduceAdd, Nat.reduceLT]; rfl, rfl, by omega, fun j hj => by omega⟩
  ·rintro i ⟨T1, H1⟩ hi ⟨t0, t1, t12, t13, hh, hil, hsame⟩
   simp only at t0 t1 t12 t13 hh
   subst hh
   by_cases hlt : i < A.length
   ·have c1 : decide ((i : Int) < (A.length : Int)) = true := by simp; omega
    obtain ⟨x, hx⟩ : ∃ x, A[i]? = some x := ⟨_, List.getElem?_eq_getElem hlt⟩
    obtain ⟨y, hy⟩ : ∃ y, B[i]? = some y := ⟨_, List.getElem?_eq_getElem (by omega)⟩
    obtain ⟨ida, pa, ea, _, xa⟩ := Ja3 hx ha
    obtain ⟨idb, pb, eb, _, xb⟩ := Ja3 hy hb
    have w1 : IntKind.i64.wrap ((i : Int) + 1) = ((i + 1 : Nat) : Int) := J0s (by omega) (by omega)
    simp only [evC, seval, ↓evP, t0, t1, t12, t13, c1]
    refine WK.flags (ops := Jmu) Jms ?_
    refine WKF.begin ?_
    have FF := And.intro @t0 (And.intro @t1 (And.intro @t12 (And.intro @t13 (And.intro @ea (And.intro @eb (And.intro @J0d (And.intro @xa (And.intro @xb @J26))))))))
    refine wst hsn 0 (some 16) (.move (.tmp 0)) none ?_
    simp only [rgC, seval, J04, J02, WKFC, FF]
    refine wst hsn 1 (some 17) (.move (.tmp 5)) none ?_
    simp only [rgC, seval, J04, J02, WKFC, FF]
    refine wst hsn 2 (some 18) (.indexAddr 27 (.tmp 16) (.tmp 17)) none ?_
    simp only [rgC, seval, J04, J02, WKFC, Nat.zero_add, FF]
    refine wst hsn 3 (some 19) (.load 9 (.tmp 18)) none ?_
    simp only [rgC, seval, J04, J02, WKFC, rgL, FF]
    refine wst hsn 4 (some 20) (.move (.tmp 1)) none ?_
    simp only [rgC, seval, J04, J02, WKFC, FF]
    refine wst hsn 5 (some 21) (.move (.tmp 5)) none ?_
    simp only [rgC, seval, J04, J02, WKFC, FF]
    refine wst hsn 6 (some 22) (.indexAddr 27 (.tmp 20) (.tmp 21)) none ?_
    simp only [rgC, seval, J04, J02, WKFC, Nat.zero_add, FF]
    refine wst hsn 7 (some 23) (.load 9 (.tmp 22)) none ?_
    simp only [rgC, seval, J04, J02, WKFC, rgL, FF]
    refine wst hsn 8 (some 24) (.binOp .neq 9 (.tmp 19) (.tmp 23) 9) none ?_
    simp only [rgC, seval, J04, J02, WKFC, rgB, FF]
    refine WKF.done (i := 9) (by kernel_rfl) ?_
    clear FF
    cases e : (!(x == y)) with
    | true =>
     have hne : A ≠ B := fun h9 => by
      subst h9
      rw [hx] at hy
      cases hy
      rw [J34] at e; cases e
     rw [decide_eq_false hne]
     simp only [evC, seval, ↓evP, hr, e]
    | false =>
     have hxy : x = y := J3o (by simpa using e)
     simp only [evC, seval, ↓evP, t0, t1, t12, t13, e, w1]
     refine ⟨by omega, by omega, fun j hj => ?_⟩
     rcases Nat.lt_or_ge j i with h1 | h1
     ·exact hsame j h1
     ·have : j = i := by omega
      subst this
      rw [hx, hy, hxy]
   ·have c1 : decide ((i : Int) < (A.length : Int)) = false := by simp; omega
    have : i = A.length := by omega
    subst this
    have hAB : A = B := J4S hlen hsame
    rw [decide_eq_true hAB]
    simp only [evC, seval, ↓evP, hr, t0, t1, t12, t13, c1]
theorem JmZ {n : Nat} {h : SHeap} {va vb : Value} {A B : List ByteArray} {la lb : Nat} (ha : J0p la h va A.length 1 (strs A)) (hb : J0p lb h vb B.length 1 (strs B)) (hl : A.length < 1000000000) (hn : A.length + 5 < n) : J0T n 68 [va, vb] h = some (.bool (decide (A = B)), h) := by
 obtain ⟨n, rfl⟩ : ∃ j, n = j + 1 := ⟨n - 1, by omega⟩
 exact J6r (J13 ⟨rfl, rfl, rfl⟩) rfl (Jmf (J1z n).2 ha hb (by omega) (by omega))
noncomputable def Jmy : Array Oper := J18 Tryd.f67 6
theorem Jmk : J1E Jmy = Jmj := by kernel_rfl
set_option maxHeartbeats 4000000 in
theorem Jmc {call : J0r} {N : Nat} {h : SHeap} (hsn : J1G call) {va vb : Value} {A B : List (ByteArray × Bool)} {la lb : Nat} (ha : J0p la h va A.length 2 (J3S A)) (hb : J0p lb h vb B.length 2 (J3S B)) (hN : A.length + 3 < N) (hl : A.length < 1099511627776) : J0L Tryd.prog call N 67 [va, vb] h = some (.bool (decide (A = B)), h) := by
 refine J1m Tryd.func67 rfl (by simp [Tryd.f67]) ?_
 have hr : Tryd.f67.results.toList = [.tmp 4] := rfl
 have lA := fun h' => JfC ha h'
 have lB := fun h' => JfC hb h'
 cases d : ((A.length : Int) != (B.length : Int)) with
 | true =>
  have hne : A ≠ B := fun e => by subst e; simp at d
  rw [decide_eq_false hne]
  simp only [evC, ↓reduceIte, Nat.reduceEqDiff, reduceCtorEq, ↓evP, hr, lA, lB, d]
 | false =>
  have hlen : A.length = B.length := by
   have h9 : (A.length : Int) = (B.length : Int) := by simpa using d
   omega
  simp only [evC, ↓reduceIte, Nat.reduceEqDiff, reduceCtorEq, ↓evP, lA, lB, d]
  refine WK.loop (fun i s' => s'.T.get 0 = va ∧ s'.T.get 1 = vb ∧ s'.T.get 12 = iv A.length ∧ s'.T.get 13 = iv i ∧ s'.h = h ∧ i ≤ A.length ∧ ∀ j, j < i → A[j]? = B[j]?) A.length (by omega) ?_ ?_
  ·exact ⟨by simp only [evC, ↓reduceIte, Nat.reduceEqDiff, reduceCtorEq, ↓evP, rpC, Nat.reduceAdd, Nat.reduceLT], by simp only [evC, ↓reduceIte, Nat.reduceEqDiff, reduceCtorEq, ↓evP, rpC, Nat.reduceAdd, Nat.reduceLT], by simp only [evC, ↓reduceIte, Nat.reduceEqDiff, reduceCtorEq, ↓evP, rpC, Nat.reduceAdd, Nat.reduceLT], by simp only [evC, ↓reduceIte, Nat.reduceEqDiff, reduceCtorEq, ↓evP, rpC, Nat.reduceAdd, Nat.reduceLT]; rfl, rfl, by omega, fun j hj => by omega⟩
  ·rintro i ⟨T1, H1⟩ hi ⟨t0, t1, t12, t13, hh, hil, hsame⟩
   simp only at t0 t1 t12 t13 hh
   subst hh
   by_cases hlt : i < A.length
   ·have c1 : decide ((i : Int) < (A.length : Int)) = true := by simp; omega
    obtain ⟨x, hx⟩ : ∃ x, A[i]? = some x := ⟨_, List.getElem?_eq_getElem hlt⟩
    obtain ⟨y, hy⟩ : ∃ y, B[i]? = some y := ⟨_, List.getElem?_eq_getElem (by omega)⟩
    obtain ⟨ida, pa, ea, _, xa⟩ := J8S hx ha
    obtain ⟨idb, pb, eb, _, xb⟩ := J8S hy hb
    have w1 : IntKind.i64.wrap ((i : Int) + 1) = ((i + 1 : Nat) : Int) := J0s (by omega) (by omega)
    simp only [evC, seval, ↓evP, t0, t1, t12, t13, c1]
    refine WK.flags (ops := Jmy) Jmk ?_
    refine WKF.begin ?_
    have FF := And.intro @t0 (And.intro @t1 (And.intro @t12 (And.intro @t13 (And.intro @ea (And.intro @eb (And.intro @J3z (And.intro @xa (And.intro @xb @J6H))))))))
    refine wst hsn 0 (some 16) (.move (.tmp 0)) none ?_
    simp only [rgC, seval, J04, J02, WKFC, FF]
    refine wst hsn 1 (some 17) (.move (.tmp 5)) none ?_
    simp only [rgC, seval, J04, J02, WKFC, FF]
    refine wst hsn 2 (some 18) (.indexAddr 26 (.tmp 16) (.tmp 17)) none ?_
    simp only [rgC, seval, J04, J02, WKFC, Nat.zero_add, FF]
    refine wst hsn 3 (some 19) (.load 57 (.tmp 18)) none ?_
    simp only [rgC, seval, J04, J02, WKFC, rgL, FF]
    refine wst hsn 4 (some 20) (.move (.tmp 1)) none ?_
    simp only [rgC, seval, J04, J02, WKFC, FF]
    refine wst hsn 5 (some 21) (.move (.tmp 5)) none ?_
    simp only [rgC, seval, J04, J02, WKFC, FF]
    refine wst hsn 6 (some 22) (.indexAddr 26 (.tmp 20) (.tmp 21)) none ?_
    simp only [rgC, seval, J04, J02, WKFC, Nat.zero_add, FF]
    refine wst hsn 7 (some 23) (.load 57 (.tmp 22)) none ?_
    simp only [rgC, seval, J04, J02, WKFC, rgL, FF]
    refine wst hsn 8 (some 24) (.binOp .neq 57 (.tmp 19) (.tmp 23) 57) none ?_
    simp only [rgC, seval, J04, J02, WKFC, rgB, FF]
    refine WKF.done (i := 9) (by kernel_rfl) ?_
    clear FF
    cases e : (!(x.1 == y.1 && x.2 == y.2)) with
    | true =>
     have hne : A ≠ B := fun h9 => by
      subst h9
      rw [hx] at hy
      cases hy
      rw [J34] at e; simp at e
     rw [decide_eq_false hne]
     simp only [evC, seval, ↓evP, hr, e]
    | false =>
     have hxy : x = y := (by simp only [Bool.not_eq_false', Bool.and_eq_true] at e; exact Prod.ext (J3o e.1) (by simpa using e.2))
     simp only [evC, seval, ↓evP, t0, t1, t12, t13, e, w1]
     refine ⟨by omega, by omega, fun j hj => ?_⟩
     rcases Nat.lt_or_ge j i with h1 | h1
     ·exact hsame j h1
     ·have : j = i := by omega
      subst this
      rw [hx, hy, hxy]
   ·have c1 : decide ((i : Int) < (A.length : Int)) = false := by simp; omega
    have : i = A.length := by omega
    subst this
    have hAB : A = B := J4S hlen hsame
    rw [decide_eq_true hAB]
    simp only [evC, seval, ↓evP, hr, t0, t1, t12, t13, c1]
theorem Jnt {n : Nat} {h : SHeap} {va vb : Value} {A B : List (ByteArray × Bool)} {la lb : Nat} (ha : J0p la h va A.length 2 (J3S A)) (hb : J0p lb h vb B.length 2 (J3S B)) (hl : A.length < 1000000000) (hn : A.length + 5 < n) : J0T n 67 [va, vb] h = some (.bool (decide (A = B)), h) := by
 obtain ⟨n, rfl⟩ : ∃ j, n = j + 1 := ⟨n - 1, by omega⟩
 exact J6r (J13 ⟨rfl, rfl, rfl⟩) rfl (Jmc (J1z n).2 ha hb (by omega) (by omega))
theorem Jn4 {h : SHeap} {v : Value} {l : List RowN} (hv : J0l h v l) (h' : SHeap) : lenS Tryd.prog h' 22 v = some (iv (l.length : Int)) := hv.len
noncomputable def Jmw : Array Oper := J18 Tryd.f66 6
theorem Jmn : J1E Jmw = Jmj := by kernel_rfl
set_option maxHeartbeats 4000000 in
theorem Jm6 {call : J0r} {N : Nat} {h : SHeap} (hsn : J1G call) {va vb : Value} {A B : List RowN} (ha : J0l h va A) (hb : J0l h vb B) (hN : A.length + 3 < N) (hl : A.length < 1099511627776) : J0L Tryd.prog call N 66 [va, vb] h = some (.bool (decide (A = B)), h) := by
 refine J1m Tryd.func66 rfl (by simp [Tryd.f66]) ?_
 have hr : Tryd.f66.results.toList = [.tmp 4] := rfl
 have lA := fun h' => Jn4 ha h'
 have lB := fun h' => Jn4 hb h'
 cases d : ((A.length : Int) != (B.length : Int)) with
 | true =>
  have hne : A ≠ B := fun e => by subst e; simp at d
  rw [decide_eq_false hne]
  simp only [evC, ↓reduceIte, Nat.reduceEqDiff, reduceCtorEq, ↓evP, hr, lA, lB, d]
 | false =>
  have hlen : A.length = B.length := by
   have h9 : (A.length : Int) = (B.length : Int) := by simpa using d
   omega
  simp only [evC, ↓reduceIte, Nat.reduceEqDiff, reduceCtorEq, ↓evP, lA, lB, d]
  refine WK.loop (fun i s' => s'.T.get 0 = va ∧ s'.T.get 1 = vb ∧ s'.T.get 12 = iv A.length ∧ s'.T.get 13 = iv i ∧ s'.h = h ∧ i ≤ A.length ∧ ∀ j, j < i → A[j]? = B[j]?) A.length (by omega) ?_ ?_
  ·exact ⟨by simp only [evC, ↓reduceIte, Nat.reduceEqDiff, reduceCtorEq, ↓evP, rpC, Nat.reduceAdd, Nat.reduceLT], by simp only [evC, ↓reduceIte, Nat.reduceEqDiff, reduceCtorEq, ↓evP, rpC, Nat.reduceAdd, Nat.reduceLT], by simp only [evC, ↓reduceIte, Nat.reduceEqDiff, reduceCtorEq, ↓evP, rpC, Nat.reduceAdd, Nat.reduceLT], by simp only [evC, ↓reduceIte, Nat.reduceEqDiff, reduceCtorEq, ↓evP, rpC, Nat.reduceAdd, Nat.reduceLT]; rfl, rfl, by omega, fun j hj => by omega⟩
  ·rintro i ⟨T1, H1⟩ hi ⟨t0, t1, t12, t13, hh, hil, hsame⟩
   simp only at t0 t1 t12 t13 hh
   subst hh
   by_cases hlt : i < A.length
   ·have c1 : decide ((i : Int) < (A.length : Int)) = true := by simp; omega
    obtain ⟨x, hx⟩ : ∃ x, A[i]? = some x := ⟨_, List.getElem?_eq_getElem hlt⟩
    obtain ⟨y, hy⟩ : ∃ y, B[i]? = some y := ⟨_, List.getElem?_eq_getElem (by omega)⟩
    obtain ⟨ida, pa, ea, _, _, _, _, _, _, xa9⟩ := J0l.row ha hx
    have xa : ldN 5 pa (H1.get ida) = some (rowV x) := xa9
    obtain ⟨idb, pb, eb, _, _, _, _, _, _, xb9⟩ := J0l.row hb hy
    have xb : ldN 5 pb (H1.get idb) = some (rowV y) := xb9
    have w1 : IntKind.i64.wrap ((i : Int) + 1) = ((i + 1 : Nat) : Int) := J0s (by omega) (by omega)
    simp only [evC, seval, ↓evP, t0, t1, t12, t13, c1]
    refine WK.flags (ops := Jmw) Jmn ?_
    refine WKF.begin ?_
    have FF := And.intro @t0 (And.intro @t1 (And.intro @t12 (And.intro @t13 (And.intro @ea (And.intro @eb (And.intro @J0u (And.intro @xa (And.intro @xb @J6U))))))))
    refine wst hsn 0 (some 16) (.move (.tmp 0)) none ?_
    simp only [rgC, seval, J04, J02, WKFC, FF]
    refine wst hsn 1 (some 17) (.move (.tmp 5)) none ?_
    simp only [rgC, seval, J04, J02, WKFC, FF]
    refine wst hsn 2 (some 18) (.indexAddr 22 (.tmp 16) (.tmp 17)) none ?_
    simp only [rgC, seval, J04, J02, WKFC, Nat.zero_add, FF]
    refine wst hsn 3 (some 19) (.load 46 (.tmp 18)) none ?_
    simp only [rgC, seval, J04, J02, WKFC, rgL, FF]
    refine wst hsn 4 (some 20) (.move (.tmp 1)) none ?_
    simp only [rgC, seval, J04, J02, WKFC, FF]
    refine wst hsn 5 (some 21) (.move (.tmp 5)) none ?_
    simp only [rgC, seval, J04, J02, WKFC, FF]
    refine wst hsn 6 (some 22) (.indexAddr 22 (.tmp 20) (.tmp 21)) none ?_
    simp only [rgC, seval, J04, J02, WKFC, Nat.zero_add, FF]
    refine wst hsn 7 (some 23) (.load 46 (.tmp 22)) none ?_
    simp only [rgC, seval, J04, J02, WKFC, rgL, FF]
    refine wst hsn 8 (some 24) (.binOp .neq 46 (.tmp 19) (.tmp 23) 46) none ?_
    simp only [rgC, seval, J04, J02, WKFC, rgB, FF]
    refine WKF.done (i := 9) (by kernel_rfl) ?_
    clear FF
    cases e : (!(J5z x y)) with
    | true =>
     have hne : A ≠ B := fun h9 => by
      subst h9
      rw [hx] at hy
      cases hy
      rw [J6E.2 rfl] at e; cases e
     rw [decide_eq_false hne]
     simp only [evC, seval, ↓evP, hr, e]
    | false =>
     have hxy : x = y := J6E.1 (by simpa using e)
     simp only [evC, seval, ↓evP, t0, t1, t12, t13, e, w1]
     refine ⟨by omega, by omega, fun j hj => ?_⟩
     rcases Nat.lt_or_ge j i with h1 | h1
     ·exact hsame j h1
     ·have : j = i := by omega
      subst this
      rw [hx, hy, hxy]
   ·have c1 : decide ((i : Int) < (A.length : Int)) = false := by simp; omega
    have : i = A.length := by omega
    subst this
    have hAB : A = B := J4S hlen hsame
    rw [decide_eq_true hAB]
    simp only [evC, seval, ↓evP, hr, t0, t1, t12, t13, c1]
theorem Jnu {n : Nat} {h : SHeap} {va vb : Value} {A B : List RowN} (ha : J0l h va A) (hb : J0l h vb B) (hl : A.length < 1000000000) (hn : A.length + 5 < n) : J0T n 66 [va, vb] h = some (.bool (decide (A = B)), h) := by
 obtain ⟨n, rfl⟩ : ∃ j, n = j + 1 := ⟨n - 1, by omega⟩
 exact J6r (J13 ⟨rfl, rfl, rfl⟩) rfl (Jm6 (J1z n).2 ha hb (by omega) (by omega))
theorem J53 : ∀ (l : List RowN) (k : Nat), (l.flatMap J0e).take (k * 5) = (l.take k).flatMap J0e
 | l, 0 => by simp
 | [], k + 1 => by simp
 | r :: l, k + 1 => by
  rw [List.flatMap_cons, List.take_succ_cons, List.flatMap_cons, ← J53 l k, show (k + 1) * 5 = k * 5 + 5 by omega]
  rfl
theorem Jgo {L : List RowN} {i : Nat} {x : RowN} (hi : i < L.length) : Go.Sx.lay (L.flatMap J0e) (i * 5) (J0e x) = (L.set i x).flatMap J0e := by
 have h5 : (J0e x).length = 5 := rfl
 rw [List.set_eq_take_append_cons_drop, if_pos hi, List.flatMap_append, List.flatMap_cons, ← J53, ← J3k]
 simp only [Go.Sx.lay, h5]
 rw [show (i + 1) * 5 = i * 5 + 5 by omega, List.append_assoc]
abbrev zRow : RowN := ⟨0, ByteArray.empty, 0, 0, 0⟩
abbrev JcY : ByteArray := ⟨#[108, 101, 110, 116]⟩
def mark (i : Nat) : RowN := ⟨-7, JcY, 0, 0, i⟩
theorem JaU {h : SHeap} {id i off : Nat} {L : List RowN} {x : RowN} {ty : TypeId} {g : Bool} (ho : off = i * 5) (hg : h.get id = .row (L.flatMap J0e) ty g false) (hi : i < L.length) (hf : h.floor ≤ id) : J0K Tryd.prog h 46 (.pointer (some ⟨id, off, none⟩)) (rowV x) = some (h.put id (.row ((L.set i x).flatMap J0e) ty g false)) := by
 subst ho
 have hc : (rowV x).cells = (J0e x).toArray := rfl
 have h5 : (J0e x).length = 5 := rfl
 have hone : (J0e x).all one = true := rfl
 have hl := J0N L
 simp only [J0K, hc, sz46, J1q, hg]
 rw [if_pos (by simp [h5]), if_pos (by simp only [h5, hone, hl]; simp; omega), Jgo hi]
theorem J9X : J2Q Tryd.prog (match Tryd.prog.underlying 46 with | some (.struct fs) => fs.toList | _ => []) = some [(0, 1), (1, 1), (2, 1), (3, 1), (4, 1)] := by kernel_rfl
theorem JaW {id n c i : Nat} (hi : i < n) : J0R Tryd.prog 22 (.slice (some ⟨id, 0, none⟩) n c) (iv (i : Int)) = some (.pointer (some ⟨id, i * 5, none⟩)) := J4z hi
structure LentAt (h : SHeap) (o : Nat) (l : List RowN) (L : List RowN) : Prop where
 g : h.get o = .row (L.flatMap J0e) 46 false false
 len : L.length = l.length + 9
 own : ∀ j, j < l.length → L[j]? = l[j]?
 marks : ∀ q, q < 9 → L[l.length + q]? = some (mark (l.length + q))
section
variable {call : J0r} {N : Nat} {h : SHeap}
end
section
variable {call : J0r} {N : Nat} {h : SHeap}
end
theorem JhO {l : List RowN} (h : (resN l).1.1 = 0) : J2c l ∧ (J0v l).1 = 0 ∧ (goN (J0o l) l.length 0 (s0N l)).1 = 0 ∧ ¬ J2K (goN (J0o l) l.length 0 (s0N l)).2.2.rows (J0o l) (goN (J0o l) l.length 0 (s0N l)).2.2.rules ≥ 0 ∧
  resN l = ((0, 0), (goN (J0o l) l.length 0 (s0N l)).2.2) ∧ InvR l l.length (resN l).2 := by
 by_cases h1 : (J0v l).1 ≠ 0
 ·unfold resN at h
  rw [if_pos h1] at h
  exact absurd h h1
 ·by_cases h2 : (goN (J0o l) l.length 0 (s0N l)).1 ≠ 0
  ·unfold resN at h
   rw [if_neg h1] at h
   simp only at h
   rw [if_pos h2] at h
   exact absurd h h2
  ·by_cases h3 : J2K (goN (J0o l) l.length 0 (s0N l)).2.2.rows (J0o l) (goN (J0o l) l.length 0 (s0N l)).2.2.rules ≥ 0
   ·unfold resN at h
    rw [if_neg h1] at h
    simp only at h
    rw [if_neg h2, if_pos h3] at h
    cases h
   ·have e1 : (J0v l).1 = 0 := by simpa using h1
    have e2 : (goN (J0o l) l.length 0 (s0N l)).1 = 0 := by simpa using h2
    have e : resN l = ((0, 0), (goN (J0o l) l.length 0 (s0N l)).2.2) := by
     unfold resN
     rw [if_neg h1]
     simp only
     rw [if_neg h2, if_neg h3]
    have ht := J8d (J5d e1)
    refine ⟨ht, e1, e2, h3, e, ?_⟩
    rw [e]
    exact JfJ ht J3T l.length 0 (s0N l) (by omega) (inv0 l) e2
theorem Jg8 {l : List RowN} (h : (resN l).1.1 ≠ 0) : outN l = (ByteArray.empty, sZ) := by unfold outN; rw [if_pos h]
theorem JeO {l : List RowN} (h : (resN l).1.1 = 0) : outN l = (J52 l, (resN l).2) := by unfold outN; rw [if_neg (by rw [h]; simp)]
theorem J8U (nm : ByteArray) (s : StN) : J5b nm nm s s := ⟨rfl, rfl, rfl, rfl, rfl, rfl, rfl, rfl⟩
section
variable {n : Nat} {h : SHeap}
end
def Jli (x : RowN) : RowN := if x.kind ≠ 27 then { x with n := 0 } else x
def Jk8 (l : List RowN) : List RowN := l.map Jli
def JmE (nm : ByteArray) (s : StN) : Prop := (resN (Jk8 s.rows)).1.1 = 0 ∧ J5b nm (outN (Jk8 s.rows)).1 s (outN (Jk8 s.rows)).2
open Classical in
noncomputable def JkA (nm : ByteArray) (s : StN) : Int := if JmE nm s then 0 else 23
theorem Jlt {H : SHeap} {cs : List Value} {e p : Int} (hl : cs.length = 8) (ho : cs.all one = true) (hf : H.floor ≤ H.next) :
  ∃ H' : SHeap × SHeap, J0K Tryd.prog ((H.push (.row [.string ByteArray.empty, .slice none 0 0, .slice none 0 0, .slice none 0 0, .slice none 0 0, .slice none 0 0, .slice none 0 0, iv 0] 30 false false)).push (.row [iv 0, iv 0] 33 false false)) 30 (.pointer (some ⟨H.next, 0, none⟩)) (.agg cs.toArray) = some (H'.1) ∧ J0K Tryd.prog H'.1 33 (.pointer (some ⟨H.next + 1, 0, none⟩)) (J2k e p) = some H'.2 ∧
   Out2 H.next H'.2 cs e p ∧ H'.2.next = H.next + 2 ∧ H'.2.floor = H.floor ∧ ∀ i, i < H.next → H'.2.get i = H.get i := by
 have ga := J4c (h := H) (o := .row [.string ByteArray.empty, .slice none 0 0, .slice none 0 0, .slice none 0 0, .slice none 0 0, .slice none 0 0, .slice none 0 0, iv 0] 30 false false) (o' := .row [iv 0, iv 0] 33 false false)
 have gb := J48 (h := H) (o := .row [.string ByteArray.empty, .slice none 0 0, .slice none 0 0, .slice none 0 0, .slice none 0 0, .slice none 0 0, .slice none 0 0, iv 0] 30 false false) (o' := .row [iv 0, iv 0] 33 false false)
 have gold : ∀ i, i < H.next → ((H.push (.row [.string ByteArray.empty, .slice none 0 0, .slice none 0 0, .slice none 0 0, .slice none 0 0, .slice none 0 0, .slice none 0 0, iv 0] 30 false false)).push (.row [iv 0, iv 0] 33 false false)).get i = H.get i := fun i hi => by rw [J06 (by show i < H.next + 1; omega), J06 hi]
 have hnx : ((H.push (.row [.string ByteArray.empty, .slice none 0 0, .slice none 0 0, .slice none 0 0, .slice none 0 0, .slice none 0 0, .slice none 0 0, iv 0] 30 false false)).push (.row [iv 0, iv 0] 33 false false)).next = H.next + 2 := rfl
 have hfx : ((H.push (.row [.string ByteArray.empty, .slice none 0 0, .slice none 0 0, .slice none 0 0, .slice none 0 0, .slice none 0 0, .slice none 0 0, iv 0] 30 false false)).push (.row [iv 0, iv 0] 33 false false)).floor = H.floor := rfl
 generalize (H.push (.row [.string ByteArray.empty, .slice none 0 0, .slice none 0 0, .slice none 0 0, .slice none 0 0, .slice none 0 0, .slice none 0 0, iv 0] 30 false false)).push (.row [iv 0, iv 0] 33 false false) = G at *
 obtain ⟨H', s1, s2, r1, r2, r3, r4⟩ := J4J (a := H.next) (H := G) ⟨ga, gb⟩ rfl (by omega) (by omega) (cs' := cs) hl ho (e' := e) (p' := p)
 exact ⟨⟨_, H'⟩, s1, s2, r1, by show H'.next = _; omega, by show H'.floor = _; omega, fun i hi => by show H'.get i = _; rw [r4 i (by omega) (by omega), gold i hi]⟩
theorem all8 {lo : Nat} {h : SHeap} {nm : ByteArray} {s : StN} {vr vq vv vt vu vo : Value} (h1 : J3P lo h vr s.rows) (h2 : J0p lo h vq s.queues.length 2 (J3S s.queues)) (h3 : J0p lo h vv s.vars.length 1 (strs s.vars)) (h4 : J0p lo h vt s.tags.length 1 (strs s.tags)) (h5 : J1S lo h vu s.rules) (h6 : J1S lo h vo s.on) :
  ([.string nm, vr, vq, vv, vt, vu, vo, iv s.miss] : List Value).all one = true := by
 simp only [List.all_cons, List.all_nil, h1.2.one, h2.one, h3.one, h4.one, J0p.one h5, J0p.one h6, J5J, J5K, Bool.and_self]
def Lies (v : Value) (n : Nat) : Prop := ∃ id off c, v = .slice (some ⟨id, off, none⟩) n c
theorem JlO {call : J0r} {N : Nat} {h : SHeap} {l : List RowN} {v : Value} (hv : J0l h v l) (hlies : Lies v l.length) (hlen : l.length < 1099511627) :
  ∃ v' h', J0L Tryd.prog call N 48 [v] h = some (v', h') ∧ (∃ o c g, v' = .slice (some ⟨o, 0, none⟩) l.length c ∧ h'.get o = .row (l.flatMap J0e) 46 g false ∧ h.next ≤ o ∧ o < h'.next) ∧ h'.floor = h.floor ∧ h.next ≤ h'.next ∧ ∀ i, i < h.next → h'.get i = h.get i := by
 by_cases h0 : 0 < l.length
 ·obtain ⟨h', e, g1, g2, g3, g4⟩ := Jby (call := call) (N := N) hv h0 hlen
  exact ⟨_, h', e, ⟨h.next + 1, unk, true, rfl, g1, by omega, by omega⟩, g3, by omega, g4⟩
 ·have hl : l = [] := List.length_eq_zero_iff.1 (by omega)
  subst hl
  obtain ⟨id, off, c, rfl⟩ := hlies
  refine ⟨.slice (some ⟨h.next, 0, none⟩) 0 0, h.push (.row [] 46 false false), ?_, ⟨h.next, 0, false, rfl, J0h, Nat.le_refl _, by show h.next < h.next + 1; omega⟩, rfl, by show h.next ≤ h.next + 1; omega, fun i hi => J06 hi⟩
  refine J1m Tryd.func48 rfl (by simp [Tryd.f48]) ?_
  have hr : Tryd.f48.results.toList = [.tmp 2] := rfl
  have hb : binS Tryd.prog .eql 22 (.tmp 3) (.const (.slice none 0 0)) (.slice (some ⟨id, off, none⟩) ([] : List RowN).length c) (.slice none 0 0) = some (.bool false) := by
   have hf : flat (.slice (some ⟨id, off, none⟩) ([] : List RowN).length c) = false := rfl
   simp only [binS, hf, Bool.false_and, Bool.false_eq_true, if_false, Tryd.underlying22]
  have hbs : J0Q Tryd.prog h 22 0 [] = some (.slice (some ⟨h.next, 0, none⟩) 0 0, h.push (.row [] 46 false false)) := by
   simp [J0Q, Tryd.underlying22, sz46, J40, flat, J1i, J0G, J5k, J3e]
  have hsrc : J16 (h.push (.row [] 46 false false)) 5 ([] : List RowN).length (.slice (some ⟨id, off, none⟩) ([] : List RowN).length c) = some [] := by simp [J16]
  have hap : J1o Tryd.prog (h.push (.row [] 46 false false)) 22 (.slice (some ⟨h.next, 0, none⟩) 0 0) (.slice (some ⟨id, off, none⟩) ([] : List RowN).length c) = some (.slice (some ⟨h.next, 0, none⟩) 0 0, h.push (.row [] 46 false false)) := by
   have hu : (0 : Nat) ≠ unk := by unfold unk; omega
   have hzs : (Value.agg #[.int .i64 0, .string ByteArray.empty, .int .i64 0, .int .i64 0, .int .i64 0]).cells.size = 5 := rfl
   simp [J1o, Tryd.underlying22, sz46, by46, J40, hzs, J16, hu]
  simp only [evC, seval, ↓evP, hr, hb, hbs, hap]
theorem Jm9 {n : Nat} {h : SHeap} {l : List RowN} {v : Value} (hv : J0l h v l) (hlies : Lies v l.length) (hlen : l.length < 1099511627) (hn : 0 < n) :
  ∃ v' h', J0T n 48 [v] h = some (v', h') ∧ (∃ o c g, v' = .slice (some ⟨o, 0, none⟩) l.length c ∧ h'.get o = .row (l.flatMap J0e) 46 g false ∧ h.next ≤ o ∧ o < h'.next) ∧ h'.floor = h.floor ∧ h.next ≤ h'.next ∧ ∀ i, i < h.next → h'.get i = h.get i := by
 obtain ⟨n, rfl⟩ : ∃ j, n = j + 1 := ⟨n - 1, by omega⟩
 refine k_ex (J13 ⟨rfl, rfl, rfl⟩) (JlO (call := J0T n) (N := n) hv hlies hlen) fun v' h1 hf ho ⟨⟨o, c, g, e1, _⟩, _⟩ => ?_
 rw [e1] at hf
 cases hf
section
variable {n N : Nat}
set_option maxHeartbeats 16000000 in
theorem JlL {nm : ByteArray} {s : StN} {pv : Value} {lo : Nat} {h : SHeap} (hp : J3x lo h pv nm s) (hlies : ∀ nm' vr vq vv vt vu vo m, pv = .agg #[.string nm', vr, vq, vv, vt, vu, vo, m] → Lies vr s.rows.length) (hs : JdC s) (hl : s.rows.length < 900000000) (hfl : h.floor ≤ h.next) (hg : h.get 0 = J14) (hn0 : 0 < h.next) (hn : 2 * Jbg s + 200 < n) (hN : Jbg s + 200 < N) :
  ∃ h', J0L Tryd.prog (J0T n) N 22 [pv] h = some (iv (JkA nm s), h') ∧ ∀ i, i < h.next → h'.get i = h.get i := by
 obtain ⟨vr, vq, vv, vt, vu, vo, rfl, p1, p2, p3, p4, p5, p6⟩ := hp
 have hlv := hlies _ _ _ _ _ _ _ _ rfl
 refine J1N (R := fun h' => ∀ i, i < h.next → h'.get i = h.get i) Tryd.func22 rfl (by simp [Tryd.f22]) ?_
 have hr : Tryd.f22.results.toList = [.tmp 2] := rfl
 unfold Jbg at hn hN
 obtain ⟨q1, q2, q3, q4, q5, q6⟩ := hs
 have ca : (Value.agg #[.string nm, vr, vq, vv, vt, vu, vo, iv s.miss]).cells.toList = [.string nm, vr, vq, vv, vt, vu, vo, iv s.miss] := rfl
 have oa := all8 (nm := nm) p1 p2 p3 p4 p5 p6
 have gA : (h.push (.row [.string nm, vr, vq, vv, vt, vu, vo, iv s.miss] 30 false false)).get h.next = .row [.string nm, vr, vq, vv, vt, vu, vo, iv s.miss] 30 false false := J0h
 have gO : ∀ i, i < h.next → (h.push (.row [.string nm, vr, vq, vv, vt, vu, vo, iv s.miss] 30 false false)).get i = h.get i := fun i hi => J06 hi
 have nA : (h.push (.row [.string nm, vr, vq, vv, vt, vu, vo, iv s.miss] 30 false false)).next = h.next + 1 := rfl
 have fA : (h.push (.row [.string nm, vr, vq, vv, vt, vu, vo, iv s.miss] 30 false false)).floor = h.floor := rfl
 show WK _ _ _ (.seq _ (.seq _ (.seq (.seq _ _) (.seq _ (.seq _ _))))) _ _
 simp only [evC, seval, ↓evP, rpD, J0X, J2t, ca, oa, sz30]
 generalize h.push (.row [.string nm, vr, vq, vv, vt, vu, vo, iv s.miss] 30 false false) = A at *
 have l1 : ld1 1 (A.get h.next) = some vr := by rw [gA]; rfl
 have P1 : J0l A vr s.rows := p1.1.mono (by omega) gO
 obtain ⟨v', h1, hcl, ⟨o, c, g, rfl, g1, g2, g3⟩, f1, n1, o1⟩ := Jm9 (n := n) P1 hlv (by omega) (by omega)
 have hlen : ∀ h' : SHeap, lenS Tryd.prog h' 22 (.slice (some ⟨o, 0, none⟩) s.rows.length c) = some (iv (s.rows.length : Int)) := fun h' => JeK
 simp only [evC, seval, ↓evP, Nat.zero_add, J0y, J0F, l1, hcl, hlen]
 refine WK.loop (fun i s' => s'.T.get 1 = .pointer (some ⟨h.next, 0, none⟩) ∧ s'.T.get 3 = .slice (some ⟨o, 0, none⟩) s.rows.length c ∧ s'.T.get 11 = iv (s.rows.length : Int) ∧ s'.T.get 12 = iv i ∧ i ≤ s.rows.length ∧ s'.h.next = h1.next ∧ s'.h.floor = h1.floor ∧ (∀ i, i ≠ o → s'.h.get i = h1.get i) ∧
  ∃ L : List RowN, s'.h.get o = .row (L.flatMap J0e) 46 g false ∧ ∀ j, L[j]? = (s.rows[j]?).map fun x => if j < i then Jli x else x) s.rows.length (by omega) ?_ ?_
 ·refine ⟨by simp only [evC, ↓reduceIte, Nat.reduceEqDiff, reduceCtorEq, ↓evP, rpC, Nat.reduceAdd, Nat.reduceLT], by simp only [evC, ↓reduceIte, Nat.reduceEqDiff, reduceCtorEq, ↓evP, rpC, Nat.reduceAdd, Nat.reduceLT], by simp only [evC, ↓reduceIte, Nat.reduceEqDiff, reduceCtorEq, ↓evP, rpC, Nat.reduceAdd, Nat.reduceLT], by simp only [evC, ↓reduceIte, Nat.reduceEqDiff, reduceCtorEq, ↓evP, rpC, Nat.reduceAdd, Nat.reduceLT]; rfl, by omega, rfl, rfl, fun _ _ => rfl, s.rows, g1, fun j => ?_⟩
  simp
 rintro i ⟨T1, H1⟩ hi ⟨t1, t3, t11, t12, hil, m1, m2, m3, L, gL, hL⟩
 simp only at t1 t3 t11 t12 m1 m2 m3 gL
 have hLl : L.length = s.rows.length := by
  rcases Nat.lt_trichotomy L.length s.rows.length with h9 | h9 | h9
  ·have := hL L.length
   rw [List.getElem?_eq_none (Nat.le_refl _), List.getElem?_eq_getElem h9] at this
   cases this
  ·exact h9
  ·have := hL s.rows.length
   rw [List.getElem?_eq_getElem h9, List.getElem?_eq_none (Nat.le_refl _)] at this
   cases this
 by_cases hlt : i < s.rows.length
 ·have c1 : decide ((i : Int) < (s.rows.length : Int)) = true := by simp; omega
  obtain ⟨x, hx⟩ : ∃ x, s.rows[i]? = some x := ⟨_, List.getElem?_eq_getElem hlt⟩
  have hLx : L[i]? = some x := by rw [hL, hx]; simp
  have ea := JaW (id := o) (n := s.rows.length) (c := c) hlt
  have lk : ld1 (i * 5) (H1.get o) = some (iv x.kind) := by
   have h5 := J2Y hLx
   rw [gL]
   have : (L.flatMap J0e)[i * 5]? = (J0e x)[0]? := by
    rw [← h5, List.getElem?_take_of_lt (by omega), List.getElem?_drop, Nat.add_zero]
   simp only [ld1, this]
   rfl
  have w1 : IntKind.i64.wrap ((i : Int) + 1) = ((i + 1 : Nat) : Int) := J0s (by omega) (by omega)
  cases d : (x.kind != 27) with
  | false =>
   have hz : Jli x = x := by
    unfold Jli
    rw [if_neg (by simpa using d)]
   simp only [evC, seval, ↓evP, t1, t3, t11, t12, c1, ea, J0t, J0m, lk, d, w1]
   refine ⟨hlt, by omega, m1, m2, m3, L, gL, fun j => ?_⟩
   rw [hL j]
   by_cases hj : j = i
   ·subst hj
    rw [hx]
    simp [hz]
   ·congr 1
    funext y
    by_cases h9 : j < i
    ·rw [if_pos h9, if_pos (by omega)]
    ·rw [if_neg h9, if_neg (by omega)]
  | true =>
   have hz : Jli x = { x with n := 0 } := by
    unfold Jli
    rw [if_pos (by simpa using d)]
   have hst := stc (t := 3) (off := i * 5 + 3) (v := iv 0) sz3 rfl rfl gL (by rw [J0N]; omega) (by omega)
   rw [J3N hLx] at hst
   simp only [evC, seval, ↓evP, t1, t3, t11, t12, c1, ea, J0t, J0O, J0m, lk, d, hst, w1]
   refine ⟨hlt, by omega, m1, m2, fun j hj => by rw [J05 (by omega) (Ne.symm hj)]; exact m3 j hj, setN L i 0, J0b rfl (by omega), fun j => ?_⟩
   by_cases hj : j = i
   ·subst hj
    rw [J4g hLx, hx]
    simp [hz]
   ·rw [J4M hj, hL j]
    congr 1
    funext y
    by_cases h9 : j < i
    ·rw [if_pos h9, if_pos (by omega)]
    ·rw [if_neg h9, if_neg (by omega)]
 have c1 : decide ((i : Int) < (s.rows.length : Int)) = false := by simp; omega
 have : i = s.rows.length := by omega
 subst this
 have hLz : L = Jk8 s.rows := by
  apply List.ext_getElem?
  intro j
  rw [hL j, Jk8, List.getElem?_map]
  rcases Nat.lt_or_ge j s.rows.length with h9 | h9
  ·simp [h9]
  ·rw [List.getElem?_eq_none h9]
   rfl
 subst hLz
 have hvz : J0l H1 (.slice (some ⟨o, 0, none⟩) s.rows.length c) (Jk8 s.rows) := by
  refine ⟨_, _, by rw [hLl], .inr ⟨o, 0, _, _, _, _, rfl, gL, by omega, fun k r hk => by rw [Nat.zero_add]; exact J2Y hk⟩⟩
 have hw1 : H1.get 0 = J14 := by rw [m3 0 (by omega), o1 0 (by omega), gO 0 hn0]; exact hg
 obtain ⟨v2, h2, hres, pv, rfl, hp', f2, n2, o2⟩ := Jia (n := n) (h := H1) (by omega) hw1 (by omega) hvz (by omega) (by omega)
 obtain ⟨vr', vq', vv', vt', vu', vo', rfl, b1, b2, b3, b4, b5, b6⟩ := hp'
 obtain ⟨⟨hb, h3⟩, s1, s2, rO, n3, f3, o3⟩ := Jlt (H := h2) (cs := [.string (outN (Jk8 s.rows)).1, vr', vq', vv', vt', vu', vo', iv (outN (Jk8 s.rows)).2.miss]) (e := (resN (Jk8 s.rows)).1.1) (p := (resN (Jk8 s.rows)).1.2) rfl (all8 b1 b2 b3 b4 b5 b6) (by omega)
 simp only at s1 s2 rO n3 f3 o3
 have zc30 : zPol.cells.toList = [.string ByteArray.empty, .slice none 0 0, .slice none 0 0, .slice none 0 0, .slice none 0 0, .slice none 0 0, .slice none 0 0, iv 0] := rfl
 have zc33 : (J2k 0 0).cells.toList = [iv 0, iv 0] := rfl
 have HO : ∀ i, i < h.next → h3.get i = h.get i := fun i hi => by rw [o3 i (by omega), o2 i (by omega), m3 i (by omega), o1 i (by omega), gO i hi]
 have HA : h3.get h.next = .row [.string nm, vr, vq, vv, vt, vu, vo, iv s.miss] 30 false false := by rw [o3 _ (by omega), o2 _ (by omega), m3 _ (by omega), o1 _ (by omega)]; exact gA
 obtain ⟨x0, x1, x2, x3, x4, x5, x6, x7⟩ := Jhw (a := .string nm) (b := vr) (c := vq) (d := vv) (e := vt) (f := vu) (g := vo) (i := iv s.miss) (ty := 30) (x := false) (y := false)
 obtain ⟨y0, y1, y2, y3, y4, y5, y6, y7⟩ := Jhw (a := .string (outN (Jk8 s.rows)).1) (b := vr') (c := vq') (d := vv') (e := vt') (f := vu') (g := vo') (i := iv (outN (Jk8 s.rows)).2.miss) (ty := 30) (x := false) (y := false)
 rw [← HA] at x0 x1 x2 x3 x4 x5 x6 x7
 rw [← rO.1] at y0 y1 y2 y3 y4 y5 y6 y7
 have lF : ld1 0 (h3.get (h2.next + 1)) = some (iv (resN (Jk8 s.rows)).1.1) := by rw [rO.2]; rfl
 have NN : h.next ≤ h3.next := by omega
 have A1 := p1.1.mono NN HO
 have A2 := p2.mono NN fun i _ hi => HO i hi
 have A3 := p3.mono NN fun i _ hi => HO i hi
 have A4 := p4.mono NN fun i _ hi => HO i hi
 have A5 := J1S.mono p5 NN fun i _ hi => HO i hi
 have A6 := J1S.mono p6 NN fun i _ hi => HO i hi
 have B1 := (b1.mono (h' := h3) (by omega) fun i _ hi => o3 i hi).1
 have B2 := b2.mono (h' := h3) (by omega) fun i _ hi => o3 i hi
 have B3 := b3.mono (h' := h3) (by omega) fun i _ hi => o3 i hi
 have B4 := b4.mono (h' := h3) (by omega) fun i _ hi => o3 i hi
 have B5 := J1S.mono (h' := h3) b5 (by omega) fun i _ hi => o3 i hi
 have B6 := J1S.mono (h' := h3) b6 (by omega) fun i _ hi => o3 i hi
 have hR := Jnu (n := n) A1 B1 (by omega) (by omega)
 have hQ := Jnt (n := n) A2 B2 (by omega) (by omega)
 have hV := JmZ (n := n) A3 B3 (by omega) (by omega)
 have hT := JmZ (n := n) A4 B4 (by omega) (by omega)
 have hU := JmT (n := n) A5 B5 (by omega) (by omega)
 have hO := JmT (n := n) A6 B6 (by omega) (by omega)
 have yes : (resN (Jk8 s.rows)).1.1 = 0 → J5b nm (outN (Jk8 s.rows)).1 s (outN (Jk8 s.rows)).2 → JkA nm s = 0 := fun h8 h9 => if_pos ⟨h8, h9⟩
 have no1 : (resN (Jk8 s.rows)).1.1 ≠ 0 → JkA nm s = 23 := fun h8 => if_neg fun h9 => h8 h9.1
 have no2 : ¬ J5b nm (outN (Jk8 s.rows)).1 s (outN (Jk8 s.rows)).2 → JkA nm s = 23 := fun h8 => if_neg fun h9 => h8 h9.2
 simp only [evC, seval, ↓evP, t1, t3, t11, t12, c1, hres, J5F, J3Y, zc30, J3C, J1t, zc33, J1D, s1, s2]
 cases d0 : ((resN (Jk8 s.rows)).1.1 != 0) with
 | true =>
  rw [no1 (by simpa using d0)]
  simp only [evC, seval, ↓evP, hr, t1, List.append_eq, List.toList_toArray, Nat.zero_add, J6a, J7G, lF, J5g, J0y, J0B, J1A, J1B, J36, J1T, J38, J0d, J0m, J0F, J0S, J0Y, J0n, x0, x1, x2, x3, x4, x5, x6, x7, y0, y1, y2, y3, y4, y5, y6, y7, J26, d0]
  exact HO
 | false =>
 cases d1 : (!(nm == (outN (Jk8 s.rows)).1)) with
 | true =>
  rw [no2 fun h9 => by rw [h9.1, J34] at d1; cases d1]
  simp only [evC, seval, ↓evP, hr, t1, List.append_eq, List.toList_toArray, Nat.zero_add, J6a, J7G, lF, J5g, J0y, J0B, J1A, J1B, J36, J1T, J38, J0d, J0m, J0F, J0S, J0Y, J0n, x0, x1, x2, x3, x4, x5, x6, x7, y0, y1, y2, y3, y4, y5, y6, y7, J26, d0, d1]
  exact HO
 | false =>
 cases d2 : (s.miss != (outN (Jk8 s.rows)).2.miss) with
 | true =>
  rw [no2 fun h9 => by rw [h9.2.1] at d2; simp at d2]
  simp only [evC, seval, ↓evP, hr, t1, List.append_eq, List.toList_toArray, Nat.zero_add, J6a, J7G, lF, J5g, J0y, J0B, J1A, J1B, J36, J1T, J38, J0d, J0m, J0F, J0S, J0Y, J0n, x0, x1, x2, x3, x4, x5, x6, x7, y0, y1, y2, y3, y4, y5, y6, y7, J26, d0, d1, d2]
  exact HO
 | false =>
 cases d3 : decide (s.rows = (outN (Jk8 s.rows)).2.rows) with
 | false =>
  rw [d3] at hR
  rw [no2 fun h9 => (of_decide_eq_false d3) h9.2.2.1]
  simp only [evC, seval, ↓evP, hr, t1, List.append_eq, List.toList_toArray, Nat.zero_add, J6a, J7G, lF, J5g, J0y, J0B, J1A, J1B, J36, J1T, J38, J0d, J0m, J0F, J0S, J0Y, J0n, x0, x1, x2, x3, x4, x5, x6, x7, y0, y1, y2, y3, y4, y5, y6, y7, J26, d0, d1, d2, hR]
  exact HO
 | true =>
 rw [d3] at hR
 cases d4 : decide (s.queues = (outN (Jk8 s.rows)).2.queues) with
 | false =>
  rw [d4] at hQ
  rw [no2 fun h9 => (of_decide_eq_false d4) h9.2.2.2.1]
  simp only [evC, seval, ↓evP, hr, t1, List.append_eq, List.toList_toArray, Nat.zero_add, J6a, J7G, lF, J5g, J0y, J0B, J1A, J1B, J36, J1T, J38, J0d, J0m, J0F, J0S, J0Y, J0n, x0, x1, x2, x3, x4, x5, x6, x7, y0, y1, y2, y3, y4, y5, y6, y7, J26, d0, d1, d2, hR, hQ]
  exact HO
 | true =>
 rw [d4] at hQ
 cases d5 : decide (s.vars = (outN (Jk8 s.rows)).2.vars) with
 | false =>
  rw [d5] at hV
  rw [no2 fun h9 => (of_decide_eq_false d5) h9.2.2.2.2.1]
  simp only [evC, seval, ↓evP, hr, t1, List.append_eq, List.toList_toArray, Nat.zero_add, J6a, J7G, lF, J5g, J0y, J0B, J1A, J1B, J36, J1T, J38, J0d, J0m, J0F, J0S, J0Y, J0n, x0, x1, x2, x3, x4, x5, x6, x7, y0, y1, y2, y3, y4, y5, y6, y7, J26, d0, d1, d2, hR, hQ, hV]
  exact HO
 | true =>
 rw [d5] at hV
 cases d6 : decide (s.tags = (outN (Jk8 s.rows)).2.tags) with
 | false =>
  rw [d6] at hT
  rw [no2 fun h9 => (of_decide_eq_false d6) h9.2.2.2.2.2.1]
  simp only [evC, seval, ↓evP, hr, t1, List.append_eq, List.toList_toArray, Nat.zero_add, J6a, J7G, lF, J5g, J0y, J0B, J1A, J1B, J36, J1T, J38, J0d, J0m, J0F, J0S, J0Y, J0n, x0, x1, x2, x3, x4, x5, x6, x7, y0, y1, y2, y3, y4, y5, y6, y7, J26, d0, d1, d2, hR, hQ, hV, hT]
  exact HO
 | true =>
 rw [d6] at hT
 cases d7 : decide (s.rules = (outN (Jk8 s.rows)).2.rules) with
 | false =>
  rw [d7] at hU
  rw [no2 fun h9 => (of_decide_eq_false d7) h9.2.2.2.2.2.2.1]
  simp only [evC, seval, ↓evP, hr, t1, List.append_eq, List.toList_toArray, Nat.zero_add, J6a, J7G, lF, J5g, J0y, J0B, J1A, J1B, J36, J1T, J38, J0d, J0m, J0F, J0S, J0Y, J0n, x0, x1, x2, x3, x4, x5, x6, x7, y0, y1, y2, y3, y4, y5, y6, y7, J26, d0, d1, d2, hR, hQ, hV, hT, hU]
  exact HO
 | true =>
 rw [d7] at hU
 cases d8 : decide (s.on = (outN (Jk8 s.rows)).2.on) with
 | false =>
  rw [d8] at hO
  rw [no2 fun h9 => (of_decide_eq_false d8) h9.2.2.2.2.2.2.2]
  simp only [evC, seval, ↓evP, hr, t1, List.append_eq, List.toList_toArray, Nat.zero_add, J6a, J7G, lF, J5g, J0y, J0B, J1A, J1B, J36, J1T, J38, J0d, J0m, J0F, J0S, J0Y, J0n, x0, x1, x2, x3, x4, x5, x6, x7, y0, y1, y2, y3, y4, y5, y6, y7, J26, d0, d1, d2, hR, hQ, hV, hT, hU, hO]
  exact HO
 | true =>
 rw [d8] at hO
 rw [yes (by simpa using d0) ⟨J3o (by simpa using d1), by simpa using d2, of_decide_eq_true d3, of_decide_eq_true d4, of_decide_eq_true d5, of_decide_eq_true d6, of_decide_eq_true d7, of_decide_eq_true d8⟩]
 simp only [evC, seval, ↓evP, hr, t1, List.append_eq, List.toList_toArray, Nat.zero_add, J6a, J7G, lF, J5g, J0y, J0B, J1A, J1B, J36, J1T, J38, J0d, J0m, J0F, J0S, J0Y, J0n, x0, x1, x2, x3, x4, x5, x6, x7, y0, y1, y2, y3, y4, y5, y6, y7, J26, d0, d1, d2, hR, hQ, hV, hT, hU, hO]
 exact HO
theorem JnE {nm : ByteArray} {s : StN} {pv : Value} {lo : Nat} {h : SHeap} (hp : J3x lo h pv nm s) (hlies : ∀ nm' vr vq vv vt vu vo m, pv = .agg #[.string nm', vr, vq, vv, vt, vu, vo, m] → Lies vr s.rows.length) (hs : JdC s) (hl : s.rows.length < 900000000) (hfl : h.floor ≤ h.next) (hg : h.get 0 = J14) (hn0 : 0 < h.next) (hn : 2 * Jbg s + 300 < n) :
  J0T n 22 [pv] h = some (iv (JkA nm s), h) := by
 obtain ⟨n, rfl⟩ : ∃ j, n = j + 1 := ⟨n - 1, by omega⟩
 exact J4r (J13 ⟨rfl, rfl, rfl⟩) rfl (JlL hp hlies hs hl hfl hg hn0 (by omega) (by omega))
end
def JkW (s : StN) (k n : Int) (nm : ByteArray) : Prop :=
 0 ≤ n ∧ ((k = 1 ∧ ∃ b, s.queues[n.toNat]? = some (nm, b)) ∨ (k = 2 ∧ s.vars[n.toNat]? = some nm) ∨ (k = 3 ∧ s.tags[n.toNat]? = some nm) ∨ (k = 4 ∧ ∃ ru : Nat, s.rules[n.toNat]? = some ((ru : Int) + 1) ∧ ∃ y : RowN, s.rows[ru]? = some y ∧ y.name = nm))
structure UpS (s s' : StN) : Prop where
 q : ∀ (i : Nat) x, s.queues[i]? = some x → s'.queues[i]? = some x
 v : ∀ (i : Nat) x, s.vars[i]? = some x → s'.vars[i]? = some x
 t : ∀ (i : Nat) x, s.tags[i]? = some x → s'.tags[i]? = some x
 u : ∀ (i : Nat) x, s.rules[i]? = some x → s'.rules[i]? = some x
 r : ∀ (i : Nat) (y : RowN), s.rows[i]? = some y → ∃ y' : RowN, s'.rows[i]? = some y' ∧ y'.name = y.name
theorem JkW.up {s s' : StN} {k n : Int} {nm : ByteArray} (h : JkW s k n nm) (hu : UpS s s') : JkW s' k n nm := by
 refine ⟨h.1, ?_⟩
 rcases h.2 with ⟨h1, b, h2⟩ | ⟨h1, h2⟩ | ⟨h1, h2⟩ | ⟨h1, ru, h2, y, h3, h4⟩
 ·exact .inl ⟨h1, b, hu.q _ _ h2⟩
 ·exact .inr (.inl ⟨h1, hu.v _ _ h2⟩)
 ·exact .inr (.inr (.inl ⟨h1, hu.t _ _ h2⟩))
 ·obtain ⟨y', h5, h6⟩ := hu.r _ _ h3
  exact .inr (.inr (.inr ⟨h1, ru, hu.u _ _ h2, y', h5, h6.trans h4⟩))
theorem Jl9 {α : Type} {l : List α} {i : Nat} {x y : α} (h : l[i]? = some x) : (l ++ [y])[i]? = some x := by rw [List.getElem?_append_left (List.getElem?_eq_some_iff.1 h).1]; exact h
theorem Jlf {l : List RowN} {k i : Nat} {n : Int} {y : RowN} (h : l[i]? = some y) : ∃ y' : RowN, (setN l k n)[i]? = some y' ∧ y'.name = y.name := by
 by_cases hi : i = k
 ·subst hi
  exact ⟨_, J4g h, rfl⟩
 ·exact ⟨y, (J4M hi).trans h, rfl⟩
theorem JkX {k : Int} (h : J1O k ≠ 0) : J0j k = 0 := by
 unfold J0j
 unfold J1O at h
 split
 ·rename_i h1
  simp only [List.contains_cons, List.contains_nil, Bool.or_false, Bool.or_eq_true, beq_iff_eq] at h1
  rcases h1 with rfl | rfl <;> exact absurd rfl h
 split
 ·subst k; exact absurd rfl h
 split
 ·subst k; exact absurd rfl h
 split
 ·subst k; exact absurd rfl h
 rfl
def Jkw (k : Int) : Int := J1O k + J0j k
theorem Jll {k : Int} (h : Jkw k = 0) : J1O k = 0 ∧ J0j k = 0 := by
 have := Jcr k
 have := J3c k
 unfold Jkw at h
 omega
structure ToldM (l : List RowN) (at_ : Nat) (s : StN) : Prop where
 rows : ∀ (i : Nat) (x : RowN), i < at_ → s.rows[i]? = some x → (Jkw x.kind = 0 → l[i]? = some x) ∧ (Jkw x.kind ≠ 0 → JkW s (Jkw x.kind) x.n x.name)
 things : ∀ t ∈ s.things, JkW s t.kind t.num t.name
theorem ToldM.up {l : List RowN} {at_ : Nat} {s s' : StN} (h : ToldM l at_ s) (hu : UpS s s') (hr : ∀ i, i < at_ → s'.rows[i]? = s.rows[i]?) (ht : ∀ t ∈ s'.things, t ∈ s.things ∨ JkW s' t.kind t.num t.name) : ToldM l at_ s' where
 rows := fun i x hi hx => by
  rw [hr i hi] at hx
  obtain ⟨h1, h2⟩ := h.rows i x hi hx
  exact ⟨h1, fun h3 => (h2 h3).up hu⟩
 things := fun t h1 => by
  rcases ht t h1 with h2 | h2
  ·exact (h.things t h2).up hu
  ·exact h2
theorem JmD {at_ : Nat} {end_ : Int} {x : RowN} {s : StN} : UpS s (addN at_ end_ x s) where
 q := fun i y h => by simp only [addN]; split; (first | exact Jl9 h | exact h); exact h
 v := fun i y h => by simp only [addN]; split; (first | exact Jl9 h | exact h); exact h
 t := fun i y h => by simp only [addN]; split; (first | exact Jl9 h | exact h); exact h
 u := fun i y h => by simp only [addN]; split; (first | exact Jl9 h | exact h); exact h
 r := fun i y h => Jlf h
theorem JmA (s : StN) : UpS s s := ⟨fun _ _ h => h, fun _ _ h => h, fun _ _ h => h, fun _ _ h => h, fun _ y h => ⟨y, h, rfl⟩⟩
theorem JkM {α : Type} (l : List α) (y : α) : (l ++ [y])[l.length]? = some y := by simp
theorem Jmq {at_ : Nat} {end_ : Int} {x : RowN} {s : StN} (hx : s.rows[at_]? = some x) (hd : J0j x.kind ≠ 0) : JkW (addN at_ end_ x s) (J0j x.kind) (cntN s (J0j x.kind)) x.name := by
 have hk := J3c x.kind
 refine ⟨by omega, ?_⟩
 rw [Int.toNat_natCast]
 have hc : J0j x.kind = 1 ∨ J0j x.kind = 2 ∨ J0j x.kind = 3 ∨ J0j x.kind = 4 := by omega
 rcases hc with e | e | e | e
 ·refine .inl ⟨e, x.kind == 3, ?_⟩
  simp only [addN, cntN, e]
  exact JkM _ _
 ·refine .inr (.inl ⟨e, ?_⟩)
  simp only [addN, cntN, e]
  exact JkM _ _
 ·refine .inr (.inr (.inl ⟨e, ?_⟩))
  simp only [addN, cntN, e]
  exact JkM _ _
 ·refine .inr (.inr (.inr ⟨e, at_, ?_, _, J4g hx, rfl⟩))
  simp only [addN, cntN, e]
  exact JkM _ _
theorem JlM {l : List RowN} {at_ : Nat} {end_ : Int} {x : RowN} {s : StN} (h : ToldM l at_ s) (hx : s.rows[at_]? = some x) :
  ToldM l at_ (J0W at_ end_ x s) ∧ ∃ n, (J0W at_ end_ x s).rows[at_]? = some { x with n := n } ∧ (J0j x.kind = 0 → n = x.n) ∧ (J0j x.kind ≠ 0 → JkW (J0W at_ end_ x s) (J0j x.kind) n x.name) := by
 unfold J0W
 by_cases d0 : J0j x.kind = 0
 ·rw [if_pos d0]
  exact ⟨h, x.n, hx, fun _ => rfl, fun h1 => absurd d0 h1⟩
 ·rw [if_neg d0]
  have hs := Jmq (end_ := end_) hx d0
  refine ⟨h.up JmD (fun i hi => J4M (by omega)) fun t ht => ?_, _, J4g hx, fun h1 => absurd h1 d0, fun _ => hs⟩
  simp only [addN, List.mem_append, List.mem_cons, List.not_mem_nil, or_false] at ht
  rcases ht with h1 | rfl
  ·exact .inl h1
  ·exact .inr hs
theorem Jm1 {l : List RowN} {at_ : Nat} {x : RowN} {s : StN} (h : ToldM l at_ s) (hx : s.rows[at_]? = some x) (hc : J1v at_ x s = 0) :
  ToldM l at_ (J0D at_ x s) ∧ UpS s (J0D at_ x s) ∧ ∃ n, (J0D at_ x s).rows[at_]? = some { x with n := n } ∧ (J1O x.kind = 0 → n = x.n) ∧ (J1O x.kind ≠ 0 → JkW (J0D at_ x s) (J1O x.kind) n x.name) := by
 unfold J0D
 unfold J1v at hc
 by_cases d0 : J1O x.kind = 0
 ·rw [if_pos d0]
  exact ⟨h, JmA s, x.n, hx, fun _ => rfl, fun h1 => absurd d0 h1⟩
 ·rw [if_neg d0] at hc ⊢
  cases hf : J30 s.things x.name with
  | none => simp only [hf] at hc; cases hc
  | some t =>
   simp only [hf] at hc ⊢
   have hk : t.kind = J1O x.kind := by
    split at hc
    ·cases hc
    ·split at hc
     ·cases hc
     ·rename_i h; simpa using h
   have hnm : t.name = x.name := by
    have := List.find?_some hf
    exact (J3o this).symm
   have hu : UpS s { s with rows := setN s.rows at_ t.num } := ⟨fun _ _ h => h, fun _ _ h => h, fun _ _ h => h, fun _ _ h => h, fun _ y h => Jlf h⟩
   have hs := (h.things t (J8w hf)).up hu
   rw [hk, hnm] at hs
   exact ⟨h.up hu (fun i hi => J4M (by omega)) fun t ht => .inl ht, hu, _, J4g hx, fun h1 => absurd h1 d0, fun _ => hs⟩
theorem JlW {l : List RowN} {E : List Int} {at_ : Nat} {s : StN} (hat : at_ < l.length) (hi : InvR l at_ s) (h : ToldM l at_ s) (h0 : (J31 E at_ s).1 = 0) : ToldM l (at_ + 1) (J31 E at_ s).2 := by
 obtain ⟨x, hx⟩ : ∃ x, s.rows[at_]? = some x := ⟨_, List.getElem?_eq_getElem (by rw [hi.len]; exact hat)⟩
 have hxl : l[at_]? = some x := by rw [← hi.later at_ (Nat.le_refl _)]; exact hx
 unfold J31 at h0 ⊢
 rw [hx] at h0 ⊢
 simp only at h0 ⊢
 by_cases hd : J25 x s = 0
 case neg => rw [if_pos hd] at h0; exact absurd h0 hd
 rw [if_neg (by simpa using hd)] at h0 ⊢
 obtain ⟨t1, k1, r1, a1, b1⟩ := JlM (end_ := (E[at_]?).getD 0) h hx
 generalize J0W at_ ((E[at_]?).getD 0) x s = s1 at *
 rw [r1] at h0 ⊢
 simp only at h0 ⊢
 by_cases hc : J1v at_ { x with n := k1 } s1 = 0
 case neg => rw [if_pos hc] at h0; exact absurd h0 hc
 rw [if_neg (by simpa using hc)] at h0 ⊢
 obtain ⟨t2, u2, k2, r2, a2, b2⟩ := Jm1 t1 r1 hc
 simp only at r2 a2 b2
 generalize J0D at_ { x with n := k1 } s1 = s2 at *
 rw [r2] at h0 ⊢
 simp only at h0 ⊢
 by_cases hv : evE { x with n := k2 } s2 = 0
 case neg => rw [if_pos hv] at h0; exact absurd h0 hv
 rw [if_neg (by simpa using hv)] at h0 ⊢
 have hev : (evS at_ { x with n := k2 } s2).queues = s2.queues ∧ (evS at_ { x with n := k2 } s2).vars = s2.vars ∧ (evS at_ { x with n := k2 } s2).tags = s2.tags ∧ (evS at_ { x with n := k2 } s2).rules = s2.rules ∧ (evS at_ { x with n := k2 } s2).rows = s2.rows ∧ (evS at_ { x with n := k2 } s2).things = s2.things := by
  unfold evS
  split
  ·exact ⟨rfl, rfl, rfl, rfl, rfl, rfl⟩
  ·split <;> exact ⟨rfl, rfl, rfl, rfl, rfl, rfl⟩
 obtain ⟨e1, e2, e3, e4, e5, e6⟩ := hev
 generalize evS at_ { x with n := k2 } s2 = s3 at *
 have hu3 : UpS s2 s3 := ⟨fun i y h => by rw [e1]; exact h, fun i y h => by rw [e2]; exact h, fun i y h => by rw [e3]; exact h, fun i y h => by rw [e4]; exact h, fun i y h => ⟨y, by rw [e5]; exact h, rfl⟩⟩
 have t3 : ToldM l at_ s3 := t2.up hu3 (fun i _ => by rw [e5]) fun t ht => .inl (by rw [← e6]; exact ht)
 refine ⟨fun i y hi' hy => ?_, t3.things⟩
 by_cases hia : i = at_
 ·subst hia
  rw [e5, r2] at hy
  cases hy
  simp only
  refine ⟨fun h1 => ?_, fun h1 => ?_⟩
  ·obtain ⟨h2, h3⟩ := Jll h1
   rw [a2 h2, a1 h3]
   exact hxl
  ·by_cases c0 : J1O x.kind = 0
   ·have d0 : J0j x.kind ≠ 0 := fun h2 => h1 (by unfold Jkw; omega)
    rw [show Jkw x.kind = J0j x.kind by unfold Jkw; omega, a2 c0]
    exact ((b1 d0).up u2).up hu3
   ·rw [show Jkw x.kind = J1O x.kind by unfold Jkw; rw [JkX c0]; omega]
    exact (b2 c0).up hu3
 ·exact t3.rows i y (by omega) hy
theorem JlI {l : List RowN} {E : List Int} (ht : J2c l) (hE : ∀ i : Nat, 0 ≤ (E[i]?).getD 0) : ∀ r at_ s, at_ + r = l.length → InvR l at_ s → ToldM l at_ s → (goN E r at_ s).1 = 0 → ToldM l l.length (goN E r at_ s).2.2
 | 0, at_, s, hr, hi, h, _ => by
  have : at_ = l.length := by omega
  subst this
  exact h
 | r + 1, at_, s, hr, hi, h, h0 => by
  unfold goN at h0 ⊢
  by_cases h9 : (J31 E at_ s).1 = 0
  ·rw [if_neg (by simpa using h9)] at h0 ⊢
   exact JlI ht hE r (at_ + 1) _ (by omega) (J6b ht (hE at_) (by omega) hi h9) (JlW (by omega) hi h h9) h0
  ·rw [if_pos h9] at h0
   exact absurd h0 h9
theorem Jmh {l : List RowN} (h : (resN l).1.1 = 0) : ToldM l l.length (resN l).2 := by
 obtain ⟨ht, _, hg, _, he, _⟩ := JhO h
 rw [he]
 exact JlI ht J3T l.length 0 (s0N l) (by omega) (inv0 l) ⟨fun i x hi => by omega, fun t ht => by simp [s0N] at ht⟩ hg
theorem Jnj {x : RowN} (h : fitN J09 x = true) : (x.kind ≠ 27 → x.n = 0) ∧ 0 ≤ x.n := by
 unfold fitN at h
 simp only [Bool.and_eq_true, Bool.or_eq_true, beq_iff_eq, decide_eq_true_eq] at h
 obtain ⟨⟨⟨⟨⟨_, _⟩, _⟩, h1⟩, _⟩, _⟩ := h
 rcases h1 with h1 | ⟨⟨h1, h2⟩, _⟩
 ·exact ⟨fun _ => h1, by omega⟩
 ·exact ⟨fun h3 => absurd h1 h3, by omega⟩
theorem Jl8 {l : List RowN} (h : (resN l).1.1 = 0) : Jk8 (resN l).2.rows = l := by
 have hm := Jmh h
 obtain ⟨ht, _, _, _, _, hi⟩ := JhO h
 apply List.ext_getElem?
 intro i
 rw [Jk8, List.getElem?_map]
 rcases Nat.lt_or_ge i l.length with h1 | h1
 ·obtain ⟨x, hx⟩ : ∃ x, (resN l).2.rows[i]? = some x := ⟨_, List.getElem?_eq_getElem (by rw [hi.len]; exact h1)⟩
  obtain ⟨y, hy, hxy⟩ := hi.same i x hx
  rw [hx, hy]
  simp only [Option.map_some, Option.some.injEq]
  have hkind : x.kind = y.kind := by rw [hxy]
  unfold Jli
  by_cases h27 : x.kind = 27
  ·rw [if_neg (by simpa using h27)]
   have := (hm.rows i x h1 hx).1 (by rw [h27]; rfl)
   rw [hy] at this
   exact (Option.some.inj this).symm
  ·rw [if_pos h27, hxy]
   have := (Jnj (ht.row hy).1).1 (by rw [← hkind]; exact h27)
   show { y with n := 0 } = y
   rw [← this]
 ·rw [List.getElem?_eq_none (by rw [hi.len]; exact h1), List.getElem?_eq_none h1]
  rfl
theorem JlS {l : List RowN} (h : (resN l).1.1 = 0) : JmE (J52 l) (resN l).2 := by
 unfold JmE
 rw [Jl8 h, JeO h]
 exact ⟨h, J8U _ _⟩
theorem Jnx {l : List RowN} (h : (resN l).1.1 = 0) : JkA (J52 l) (resN l).2 = 0 := if_pos (JlS h)
theorem sz5 : szOf Tryd.prog 5 = some 1 := by kernel_rfl
theorem Jnh : J1w Tryd.prog 5 = some (.int .u8 0) := by kernel_rfl
theorem Jnq {h : SHeap} {a b c d : Int} : J0Q Tryd.prog h 101 4 [(0, .int .u8 a), (1, .int .u8 b), (2, .int .u8 c), (3, .int .u8 d)] = some (.slice (some ⟨h.next, 0, none⟩) 4 4, h.push (.row [.int .u8 a, .int .u8 b, .int .u8 c, .int .u8 d] 5 false false)) := by
 have hc : ∀ x : Int, (Value.int .u8 x).cells = #[.int .u8 x] := fun _ => rfl
 simp [J0Q, Tryd.underlying101, sz5, Jnh, flat, J1i, hc, J5k, J3e, Go.Sx.lay]
theorem Jn1 {h : SHeap} {n : Int} : Jbc Tryd.prog h 3 5 (iv n) = some (.int .u8 (IntKind.u8.wrap n)) := by
 simp only [Jbc, Tryd.underlying3, Tryd.underlying5]
def numB (c : Int) (n : Nat) : ByteArray := ⟨#[UInt8.ofNat c.toNat, UInt8.ofNat (48 + n / 100), UInt8.ofNat (48 + n / 10 % 10), UInt8.ofNat (48 + n % 10)]⟩
theorem JmG {n : Int} (h : 0 ≤ n) (h2 : n < 256) : IntKind.u8.wrap n = n := by
 simp [IntKind.wrap, IntKind.bits, IntKind.signed]
 omega
theorem JmB {h : SHeap} {a : Int} {b c d : Nat} : Jbc Tryd.prog (h.push (.row [.int .u8 a, .int .u8 b, .int .u8 c, .int .u8 d] 5 false false)) 101 9 (.slice (some ⟨h.next, 0, none⟩) 4 4) = some (.string ⟨#[UInt8.ofNat a.toNat, UInt8.ofNat b, UInt8.ofNat c, UInt8.ofNat d]⟩) := by
 have hs : J16 (h.push (.row [.int .u8 a, .int .u8 b, .int .u8 c, .int .u8 d] 5 false false)) 1 4 (.slice (some ⟨h.next, 0, none⟩) 4 4) = some [.int .u8 a, .int .u8 b, .int .u8 c, .int .u8 d] := by
  simp [J16, J0h, cut]
 simp only [Jbc, Tryd.underlying101, Tryd.underlying9, Tryd.underlying5, hs, J5f]
 rfl
section
variable {call : J0r} {N n : Nat} {h : SHeap}
set_option maxHeartbeats 4000000 in
theorem Jlc {c : Int} {k : Nat} (hk : k < 1000) : ∃ h', J0L Tryd.prog call N 29 [.int .u8 c, iv k] h = some (.string (numB c k), h') ∧ ∀ i, i < h.next → h'.get i = h.get i := by
 refine J1N (R := fun h' => ∀ i, i < h.next → h'.get i = h.get i) Tryd.func29 rfl (by simp [Tryd.f29]) ?_
 have hr : Tryd.f29.results.toList = [.tmp 4] := rfl
 have b1 := JjO (P := Tryd.prog) (t := 3) (x := .tmp 6) (y := .const (.int .i64 100)) (k := .i64) (a := (k : Int)) (show (100 : Int) ≠ 0 by decide)
 have b2 := JjO (P := Tryd.prog) (t := 3) (x := .tmp 10) (y := .const (.int .i64 10)) (k := .i64) (a := (k : Int)) (show (10 : Int) ≠ 0 by decide)
 have b3 := Jjy (P := Tryd.prog) (t := 3) (x := .tmp 11) (y := .const (.int .i64 10)) (k := .i64) (a := ((k / 10 : Nat) : Int)) (show (10 : Int) ≠ 0 by decide)
 have b4 := Jjy (P := Tryd.prog) (t := 3) (x := .tmp 15) (y := .const (.int .i64 10)) (k := .i64) (a := (k : Int)) (show (10 : Int) ≠ 0 by decide)
 have t1 : (k : Int).tdiv 100 = ((k / 100 : Nat) : Int) := by rw [Int.tdiv_eq_ediv_of_nonneg (by omega)]; omega
 have t2 : (k : Int).tdiv 10 = ((k / 10 : Nat) : Int) := by rw [Int.tdiv_eq_ediv_of_nonneg (by omega)]; omega
 have t3 : ((k / 10 : Nat) : Int).tmod 10 = ((k / 10 % 10 : Nat) : Int) := by rw [Int.tmod_eq_emod_of_nonneg (by omega)]; omega
 have t4 : (k : Int).tmod 10 = ((k % 10 : Nat) : Int) := by rw [Int.tmod_eq_emod_of_nonneg (by omega)]; omega
 rw [t1, J0s (by omega) (by omega)] at b1
 rw [t2, J0s (by omega) (by omega)] at b2
 rw [t3] at b3
 rw [t4] at b4
 have w1 : IntKind.i64.wrap (48 + ((k / 100 : Nat) : Int)) = ((48 + k / 100 : Nat) : Int) := by rw [J0s (by omega) (by omega)]; omega
 have w2 : IntKind.i64.wrap (48 + ((k / 10 % 10 : Nat) : Int)) = ((48 + k / 10 % 10 : Nat) : Int) := by rw [J0s (by omega) (by omega)]; omega
 have w3 : IntKind.i64.wrap (48 + ((k % 10 : Nat) : Int)) = ((48 + k % 10 : Nat) : Int) := by rw [J0s (by omega) (by omega)]; omega
 have u1 : IntKind.u8.wrap ((48 + k / 100 : Nat) : Int) = ((48 + k / 100 : Nat) : Int) := JmG (by omega) (by omega)
 have u2 : IntKind.u8.wrap ((48 + k / 10 % 10 : Nat) : Int) = ((48 + k / 10 % 10 : Nat) : Int) := JmG (by omega) (by omega)
 have u3 : IntKind.u8.wrap ((48 + k % 10 : Nat) : Int) = ((48 + k % 10 : Nat) : Int) := JmG (by omega) (by omega)
 have hcv := JmB (h := h) (a := c) (b := 48 + k / 100) (c := 48 + k / 10 % 10) (d := 48 + k % 10)
 simp only [evC, seval, ↓evP, b1, b2, b3, b4, w1, w2, w3, Jn1, u1, u2, u3, Jnq, hcv, hr]
 exact ⟨rfl, fun i hi => J06 hi⟩
theorem Jkm {c : Int} {k : Nat} (hk : k < 1000) (hn : 0 < n) : J0T n 29 [.int .u8 c, iv k] h = some (.string (numB c k), h) := by
 obtain ⟨n, rfl⟩ : ∃ j, n = j + 1 := ⟨n - 1, by omega⟩
 exact J4r (J13 ⟨rfl, rfl, rfl⟩) rfl (Jlc hk)
end
theorem JlN {a b : Nat} (ha : a < 256) (hb : b < 256) (h : UInt8.ofNat a = UInt8.ofNat b) : a = b := by
 have := congrArg UInt8.toNat h
 simpa [UInt8.toNat_ofNat', Nat.mod_eq_of_lt ha, Nat.mod_eq_of_lt hb] using this
theorem JlV {c : Int} {a b : Nat} (ha : a < 1000) (hb : b < 1000) (h : numB c a = numB c b) : a = b := by
 unfold numB at h
 simp only [ByteArray.mk.injEq, Array.mk.injEq, List.cons.injEq, and_true, true_and] at h
 obtain ⟨h1, h2, h3⟩ := h
 have e1 := JlN (by omega) (by omega) h1
 have e2 := JlN (by omega) (by omega) h2
 have e3 := JlN (by omega) (by omega) h3
 omega
section
variable {α β : Type} {f : α → List β} {w : Nat}
theorem Jk7 (hf : ∀ x, (f x).length = w) : ∀ l : List α, (l.flatMap f).length = l.length * w
 | [] => by simp
 | x :: l => by rw [List.flatMap_cons, List.length_append, Jk7 hf l, hf, List.length_cons, Nat.succ_mul]; omega
theorem JlZ (hf : ∀ x, (f x).length = w) : ∀ {l : List α} {i j : Nat} {x : α}, l[i]? = some x → j < w → (l.flatMap f)[i * w + j]? = (f x)[j]?
 | [], i, j, x, h, _ => by simp at h
 | y :: l, 0, j, x, h, hj => by
  cases h
  rw [List.flatMap_cons, Nat.zero_mul, Nat.zero_add, List.getElem?_append_left (by rw [hf]; exact hj)]
 | y :: l, i + 1, j, x, h, hj => by
  have h' : l[i]? = some x := h
  rw [List.flatMap_cons, List.getElem?_append_right (by rw [hf, Nat.succ_mul]; omega), hf, ← JlZ hf h' hj]
  congr 1
  rw [Nat.succ_mul]
  omega
end
def rowK (kind : Int) (nm : ByteArray) (kids : Int) : RowN := ⟨kind, nm, 0, 0, kids⟩
abbrev pB : ByteArray := ⟨#[112]⟩
section
variable {q v t r : Nat}
theorem JkL {n i : Nat} (h : i < n) : (List.range n)[i]? = some i := by simp [h]
end
theorem Jmt : ((List.range 70).all fun i => J09 (numB 114 i) && J09 (numB 116 i) && J09 (numB 118 i) && J09 (numB 113 i)) = true := by kernel_rfl
theorem Jl7 {i : Nat} (h : i < 70) : J09 (numB 114 i) = true ∧ J09 (numB 116 i) = true ∧ J09 (numB 118 i) = true ∧ J09 (numB 113 i) = true := by
 have := List.all_eq_true.1 Jmt i (List.mem_range.2 h)
 simp only [Bool.and_eq_true] at this
 exact ⟨this.1.1.1, this.1.1.2, this.1.2, this.2⟩
theorem Jle {k : Int} {nm : ByteArray} {kids : Int} (hn : J09 nm = true) (hk : J3l k = true) (h1 : decide (kids ≥ J1U k) = true) (h2 : (decide (J1r k < 0) || decide (kids ≤ J1r k)) = true) : fitN J09 (rowK k nm kids) = true := by
 unfold fitN rowK
 simp only [hn, hk, h1, h2]
 rfl
section
variable {l : List RowN} {p m : Nat}
theorem JkQ {sz : Nat} : ∀ (c r p : Nat), (∀ i, i < c → rowN J09 l m (p + sz * i) 0 = (p + sz * (i + 1), true) ∧ isEv l[p + sz * i]? = false) → polN J09 l m (c + r) false p = polN J09 l m r false (p + sz * c)
 | 0, r, p, _ => by rw [Nat.zero_add, Nat.mul_zero, Nat.add_zero]
 | c + 1, r, p, h => by
  obtain ⟨h1, h2⟩ := h 0 (by omega)
  rw [Nat.mul_zero, Nat.add_zero, Nat.zero_add, Nat.mul_one] at h1
  rw [Nat.mul_zero, Nat.add_zero] at h2
  have hd : J3J false l[p]? = 0 := by unfold J3J; rw [h2]; rfl
  rw [show c + 1 + r = (c + r) + 1 by omega]
  change (if (rowN J09 l m p (J3J false l[p]?)).2 = true then polN J09 l m (c + r) (false || isEv l[p]?) (rowN J09 l m p (J3J false l[p]?)).1 else ((rowN J09 l m p (J3J false l[p]?)).1, false)) = _
  rw [hd, h1, h2]
  simp only [if_true, Bool.or_self]
  rw [JkQ c r (p + sz) fun i hi => by
   obtain ⟨a, b⟩ := h (i + 1) (by omega)
   rw [show p + sz * (i + 1) = p + sz + sz * i by rw [Nat.mul_succ]; omega] at a b
   rw [show p + sz * (i + 1 + 1) = p + sz + sz * (i + 1) by rw [Nat.mul_succ, Nat.mul_succ]; omega] at a
   exact ⟨a, b⟩]
  have e : p + sz + sz * c = p + sz * (c + 1) := by rw [Nat.mul_succ]; omega
  rw [e]
end
section
variable {q v t r : Nat}
end
section
variable {l : List RowN}
theorem JmI {g : Nat → Int × Nat} {kind B : Int} (hB : 0 ≤ B) (hg : ∀ p, 1 ≤ p → 0 ≤ (g p).1 ∧ (g p).1 ≤ B ∧ p ≤ (g p).2) : ∀ r k most next, 1 ≤ next → 0 ≤ most → most ≤ B + 1 → 0 ≤ (levL g l kind r k most next).1 ∧ (levL g l kind r k most next).1 ≤ B + 1 ∧ next ≤ (levL g l kind r k most next).2 := by
 intro r
 induction r with
 | zero => intro k most next h h0 h1; exact ⟨h0, h1, Nat.le_refl _⟩
 | succ r ih =>
  intro k most next hn h0 h1
  unfold levL
  split
  ·exact ⟨h0, h1, Nat.le_refl _⟩
  ·rename_i y hy
   have h2 := hg next hn
   have h3 := J6p (J1f kind) (J1f y.kind) k
   have h4 := ih (k + 1) (if (g next).1 + J2i (J1f kind) (J1f y.kind) k > most then (g next).1 + J2i (J1f kind) (J1f y.kind) k else most) (g next).2 (by omega) (by split <;> omega) (by split <;> omega)
   omega
theorem Jl5 : ∀ m p, p ≤ (levN l m p).2 ∧ 0 ≤ (levN l m p).1 := by
 intro m
 induction m with
 | zero => intro p; exact ⟨Nat.le_refl _, Int.le_refl _⟩
 | succ m ih =>
  intro p
  unfold levN
  cases l[p]? with
  | none => exact ⟨Nat.le_refl _, Int.le_refl _⟩
  | some x =>
   simp only
   have ho := J4A x.kind
   have key : ∀ (r k : Nat) (most : Int) (next : Nat), 0 ≤ most → 0 ≤ (levL (levN l m) l x.kind r k most next).1 ∧ next ≤ (levL (levN l m) l x.kind r k most next).2 := by
    intro r
    induction r with
    | zero => intro k most next h0; exact ⟨h0, Nat.le_refl _⟩
    | succ r ih2 =>
     intro k most next h0
     unfold levL
     split
     ·exact ⟨h0, Nat.le_refl _⟩
     ·rename_i y hy
      have h2 := ih next
      have h4 := ih2 (k + 1) (if (levN l m next).1 + J2i (J1f x.kind) (J1f y.kind) k > most then (levN l m next).1 + J2i (J1f x.kind) (J1f y.kind) k else most) (levN l m next).2 (by split <;> omega)
      omega
   have := key x.kids.toNat 0 0 (p + 1) (Int.le_refl _)
   omega
end
section
variable {q v t r : Nat}
end
section
variable {E : List Int} {s : StN} {at_ : Nat} {x : RowN}
theorem JlE (hx : s.rows[at_]? = some x) (hd : J0j x.kind ≠ 0) (hc : J1O x.kind = 0) (he : J0E x.kind = false) (h0 : J25 x s = 0) : J31 E at_ s = (0, addN at_ ((E[at_]?).getD 0) x s) := by
 have hS : J0W at_ ((E[at_]?).getD 0) x s = addN at_ ((E[at_]?).getD 0) x s := by unfold J0W; rw [if_neg hd]
 have hr : (addN at_ ((E[at_]?).getD 0) x s).rows[at_]? = some { x with n := cntN s (J0j x.kind) } := J4g hx
 unfold J31
 rw [hx]
 simp only
 rw [if_neg (fun h => h h0), hS, hr]
 simp only
 have c0 : J1v at_ { x with n := cntN s (J0j x.kind) } (addN at_ ((E[at_]?).getD 0) x s) = 0 := by unfold J1v; rw [if_pos hc]
 have c1 : J0D at_ { x with n := cntN s (J0j x.kind) } (addN at_ ((E[at_]?).getD 0) x s) = addN at_ ((E[at_]?).getD 0) x s := by unfold J0D; rw [if_pos hc]
 rw [if_neg (fun h => h c0), c1, hr]
 simp only
 have e0 : evE { x with n := cntN s (J0j x.kind) } (addN at_ ((E[at_]?).getD 0) x s) = 0 := by unfold evE; rw [if_pos he]
 have e1 : evS at_ { x with n := cntN s (J0j x.kind) } (addN at_ ((E[at_]?).getD 0) x s) = addN at_ ((E[at_]?).getD 0) x s := by unfold evS; rw [if_pos he]
 rw [if_neg (fun h => h e0), e1]
theorem Jlw (hx : s.rows[at_]? = some x) (hd : J0j x.kind = 0) (hc : J1O x.kind = 0) (he : J0E x.kind = false) : J31 E at_ s = (0, s) := by
 have d0 : J25 x s = 0 := by unfold J25; rw [if_pos hd]
 have hS : J0W at_ ((E[at_]?).getD 0) x s = s := by unfold J0W; rw [if_pos hd]
 have c0 : J1v at_ x s = 0 := by unfold J1v; rw [if_pos hc]
 have c1 : J0D at_ x s = s := by unfold J0D; rw [if_pos hc]
 have e0 : evE x s = 0 := by unfold evE; rw [if_pos he]
 have e1 : evS at_ x s = s := by unfold evS; rw [if_pos he]
 unfold J31
 rw [hx]
 simp only
 rw [if_neg (fun h => h d0), hS, hx]
 simp only
 rw [if_neg (fun h => h c0), c1, hx]
 simp only
 rw [if_neg (fun h => h e0), e1]
theorem JlY {n : Nat} {s' : StN} (h : J31 E at_ s = (0, s')) : goN E (n + 1) at_ s = goN E n (at_ + 1) s' := by
 change (if (J31 E at_ s).1 ≠ 0 then ((J31 E at_ s).1, at_, s) else goN E n (at_ + 1) (J31 E at_ s).2) = _
 rw [h]
 exact if_neg (fun h => h rfl)
theorem Jln : ∀ (k n at_ : Nat), (∀ j, j < k → ∃ x, s.rows[at_ + j]? = some x ∧ J0j x.kind = 0 ∧ J1O x.kind = 0 ∧ J0E x.kind = false) → goN E (k + n) at_ s = goN E n (at_ + k) s
 | 0, n, at_, _ => by rw [Nat.zero_add, Nat.add_zero]
 | k + 1, n, at_, h => by
  obtain ⟨x, h1, h2, h3, h4⟩ := h 0 (by omega)
  rw [Nat.add_zero] at h1
  rw [show k + 1 + n = (k + n) + 1 by omega, JlY (Jlw h1 h2 h3 h4), Jln k n (at_ + 1) fun j hj => by
   have := h (j + 1) (by omega)
   rw [show at_ + (j + 1) = at_ + 1 + j by omega] at this
   exact this]
  rw [show at_ + 1 + k = at_ + (k + 1) by omega]
theorem JkK {I : Nat → StN → Prop} {sz p0 c : Nat} (hI : ∀ i s, i < c → I i s → ∃ s', (∀ n, goN E (sz + n) (p0 + sz * i) s = goN E n (p0 + sz * (i + 1)) s') ∧ I (i + 1) s') : ∀ k s, k ≤ c → I 0 s → ∃ s', (∀ n, goN E (sz * k + n) p0 s = goN E n (p0 + sz * k) s') ∧ I k s' := by
 intro k
 induction k with
 | zero => intro s _ h; exact ⟨s, fun n => by rw [Nat.mul_zero, Nat.zero_add, Nat.add_zero], h⟩
 | succ k ih =>
  intro s hk h
  obtain ⟨s1, h1, h2⟩ := ih s (by omega) h
  obtain ⟨s2, h3, h4⟩ := hI k s1 (by omega) h2
  refine ⟨s2, fun n => ?_, h4⟩
  rw [Nat.mul_succ, Nat.add_assoc, h1, h3, Nat.mul_succ]
end
section
variable {l : List RowN} {E : List Int} {s : StN} {p nr nt nv nq : Nat}
theorem Jkg {x : RowN} (hd : J0j x.kind ≠ 0) (hf : J30 s.things x.name = none) : J25 x s = if (cntN s (J0j x.kind) : Int) = J3g (J0j x.kind) then 3 else 0 := by
 unfold J25
 rw [if_neg hd, hf]
 rfl
theorem Jl4 {k : Nat} {x : RowN} (hx : s.rows[p]? = some x) (hd : J0j x.kind ≠ 0) (hc : J1O x.kind = 0) (he : J0E x.kind = false) (h0 : J25 x s = 0) (hl : ∀ j, j < k → ∃ y, s.rows[p + 1 + j]? = some y ∧ J0j y.kind = 0 ∧ J1O y.kind = 0 ∧ J0E y.kind = false) (n : Nat) :
  goN E (k + 1 + n) p s = goN E n (p + (k + 1)) (addN p ((E[p]?).getD 0) x s) := by
 rw [show k + 1 + n = (k + n) + 1 by omega, JlY (JlE hx hd hc he h0), Jln k n (p + 1) fun j hj => by
  obtain ⟨y, h1, h2⟩ := hl j hj
  exact ⟨y, by rw [show (addN p ((E[p]?).getD 0) x s).rows = setN s.rows p (cntN s (J0j x.kind)) from rfl, J4M (by omega)]; exact h1, h2⟩]
 rw [show p + 1 + k = p + (k + 1) by omega]
end
end Go.Proofs.YtipekdhneagdbaaDoor
