/- Stepping through the reading by rewriting. -/
import Derived.Test.YtdnnjkneablfiaaGreatDoorSx16
import Derived.Laws.Bits64b
import Derived.Lib.Mul64
namespace Go.Sx
open Go
set_option linter.unusedSimpArgs false
set_option linter.unusedVariables false

/-- What is still to be done: code behind, blocks around, an invariant. -/
inductive Kont where
  | top (Q : SExit → St → Prop)
  | seq (b : Code) (k : Kont)
  | block (id : Nat) (k : Kont)
  | inv (J : St → Prop) (k : Kont)

def Kont.ap (P : Program) (call : SCall) (n : Nat) : Kont → SExit → St → Prop
  | .top Q, e, s => Q e s
  | .seq b k, .normal, s => WS P call n b s (k.ap P call n)
  | .seq _ k, e, s => k.ap P call n e s
  | .block id k, .exit i, s => if i = id then k.ap P call n .normal s else k.ap P call n (.exit i) s
  | .block _ k, e, s => k.ap P call n e s
  | .inv J _, .normal, s => J s
  | .inv _ k, e, s => k.ap P call n e s

def WK (P : Program) (call : SCall) (n : Nat) (c : Code) (s : St) (k : Kont) : Prop := WS P call n c s (k.ap P call n)
def WKL (P : Program) (call : SCall) (n : Nat) (ops : Array Oper) (l : List Oper) (s : St) (k : Kont) : Prop := WL P call ops l s (k.ap P call n .normal)
/-- Behind an operation: its value and the heap. -/
def WKR (P : Program) (call : SCall) (n : Nat) (ops : Array Oper) (l : List Oper) (dst : Option Tmp) (T : Tr) (k : Kont) : Option (Value × SHeap) → Prop
  | some (v, h) => WKL P call n ops l ⟨T.put dst v, h⟩ k
  | none => False
def WKO (P : Program) (call : SCall) (n : Nat) (ops : Array Oper) (l : List Oper) (dst : Option Tmp) (T : Tr) (h : SHeap) (k : Kont) : Option Value → Prop
  | some v => WKL P call n ops l ⟨T.put dst v, h⟩ k
  | none => False
def WKC (P : Program) (call : SCall) (n : Nat) (a b : Code) (s : St) (k : Kont) : Value → Prop
  | .bool t => (t = true → WK P call n a s k) ∧ (t = false → WK P call n b s k)
  | _ => False

section
variable {P : Program} {call : SCall} {n : Nat} {s : St} {k : Kont} {Q : SExit → St → Prop}

theorem ap_top {e : SExit} : (Kont.top Q).ap P call n e s = Q e s := rfl
theorem ap_seqN {b : Code} : (Kont.seq b k).ap P call n .normal s = WK P call n b s k := rfl
theorem ap_seqE {b : Code} {i : Nat} : (Kont.seq b k).ap P call n (.exit i) s = k.ap P call n (.exit i) s := rfl
theorem ap_seqR {b : Code} : (Kont.seq b k).ap P call n .ret s = k.ap P call n .ret s := rfl
theorem ap_blkN {id : Nat} : (Kont.block id k).ap P call n .normal s = k.ap P call n .normal s := rfl
theorem ap_blkE {id i : Nat} : (Kont.block id k).ap P call n (.exit i) s = if i = id then k.ap P call n .normal s else k.ap P call n (.exit i) s := rfl
theorem ap_blkR {id : Nat} : (Kont.block id k).ap P call n .ret s = k.ap P call n .ret s := rfl
theorem ap_invN {J : St → Prop} : (Kont.inv J k).ap P call n .normal s = J s := rfl
theorem ap_invE {J : St → Prop} {i : Nat} : (Kont.inv J k).ap P call n (.exit i) s = k.ap P call n (.exit i) s := rfl
theorem ap_invR {J : St → Prop} : (Kont.inv J k).ap P call n .ret s = k.ap P call n .ret s := rfl

theorem wk_top {c : Code} : WS P call n c s Q = WK P call n c s (.top Q) := rfl

theorem wk_skip : WK P call n .skip s k = k.ap P call n .normal s := by
  apply propext; simp only [WK, WS, codeS, Option.some.injEq, Prod.mk.injEq]
  exact ⟨fun ⟨_, _, ⟨rfl, rfl⟩, h⟩ => h, fun h => ⟨_, _, ⟨rfl, rfl⟩, h⟩⟩
theorem wk_exit {id : Nat} : WK P call n (.exit id) s k = k.ap P call n (.exit id) s := by
  apply propext; simp only [WK, WS, codeS, Option.some.injEq, Prod.mk.injEq]
  exact ⟨fun ⟨_, _, ⟨rfl, rfl⟩, h⟩ => h, fun h => ⟨_, _, ⟨rfl, rfl⟩, h⟩⟩
theorem wk_ret : WK P call n .ret s k = k.ap P call n .ret s := by
  apply propext; simp only [WK, WS, codeS, Option.some.injEq, Prod.mk.injEq]
  exact ⟨fun ⟨_, _, ⟨rfl, rfl⟩, h⟩ => h, fun h => ⟨_, _, ⟨rfl, rfl⟩, h⟩⟩
theorem wk_seq {a b : Code} : WK P call n (.seq a b) s k = WK P call n a s (.seq b k) := by
  apply propext
  constructor
  · rintro ⟨e, s', h1, h2⟩
    simp only [codeS] at h1
    split at h1
    · rename_i s1 h3
      exact ⟨_, _, h3, _, _, h1, h2⟩
    · rename_i hne
      refine ⟨_, _, h1, ?_⟩
      cases e with
      | normal => exact absurd h1 (hne _)
      | exit id => exact h2
      | ret => exact h2
  · rintro ⟨e, s', h1, h2⟩
    cases e with
    | normal =>
      obtain ⟨e2, s2, h3, h4⟩ := h2
      exact ⟨e2, s2, by simp only [codeS, h1, h3], h4⟩
    | exit id => exact ⟨_, _, by simp only [codeS, h1], h2⟩
    | ret => exact ⟨_, _, by simp only [codeS, h1], h2⟩
theorem wk_block {id : Nat} {c : Code} : WK P call n (.block id c) s k = WK P call n c s (.block id k) := by
  apply propext
  constructor
  · rintro ⟨e, s', h1, h2⟩
    simp only [codeS] at h1
    split at h1
    · rename_i i s1 h3
      refine ⟨_, _, h3, ?_⟩
      unfold Kont.ap
      split at h1 <;> (cases h1; simp_all)
    · rename_i hne
      refine ⟨_, _, h1, ?_⟩
      cases e with
      | normal => exact h2
      | exit id => exact absurd h1 (hne _ _)
      | ret => exact h2
  · rintro ⟨e, s', h1, h2⟩
    cases e with
    | normal => exact ⟨_, _, by simp only [codeS, h1], h2⟩
    | exit i =>
      by_cases hi : i = id
      · subst hi
        exact ⟨.normal, s', by simp only [codeS, h1, if_true], by simpa [Kont.ap] using h2⟩
      · exact ⟨.exit i, s', by simp only [codeS, h1, hi, if_false], by simpa [Kont.ap, hi] using h2⟩
    | ret => exact ⟨_, _, by simp only [codeS, h1], h2⟩
theorem wk_cond {c : Operand} {a b : Code} : WK P call n (.cond c a b) s k = WKC P call n a b s k (ev s.T c) := by
  apply propext
  constructor
  · rintro ⟨e, s', h1, h2⟩
    simp only [codeS] at h1
    split at h1
    · rename_i he; rw [he]; exact ⟨fun _ => ⟨_, _, h1, h2⟩, fun h => (by cases h)⟩
    · rename_i he; rw [he]; exact ⟨fun h => (by cases h), fun _ => ⟨_, _, h1, h2⟩⟩
    · cases h1
  · intro h
    cases he : ev s.T c with
    | bool t => rw [he] at h; exact .cond he h.1 h.2
    | _ => rw [he] at h; exact h.elim
theorem wkc_bool {a b : Code} {t : Bool} : WKC P call n a b s k (.bool t) = ((t = true → WK P call n a s k) ∧ (t = false → WK P call n b s k)) := rfl
theorem wk_region {id : Nat} {ops : Array Oper} : WK P call n (.region id ops false) s k = WKL P call n ops ops.toList s k := by
  apply propext
  refine ⟨fun ⟨e, s', h1, h2⟩ => ?_, .region⟩
  simp only [codeS, Bool.false_eq_true, if_false] at h1
  cases hs : seqS P call ops ops.toList s with
  | none => rw [hs] at h1; cases h1
  | some s1 => rw [hs] at h1; cases h1; exact ⟨_, hs, h2⟩
theorem wkl_nil {ops : Array Oper} : WKL P call n ops [] s k = k.ap P call n .normal s := by
  simp [WKL, WL, seqS]
theorem wkl_cons {ops : Array Oper} {o : Oper} {l : List Oper} : WKL P call n ops (o :: l) s k = if wantS ops s.T o then WKR P call n ops l o.dst s.T k (sop P call s.T s.h o.op) else WKL P call n ops l ⟨s.T.put o.dst undef, s.h⟩ k := by
  apply propext
  constructor
  · rintro ⟨s', h1, h2⟩
    simp only [seqS, stepS] at h1
    by_cases hw : wantS ops s.T o = true
    · rw [if_pos hw] at h1 ⊢
      cases hs : sop P call s.T s.h o.op with
      | none => rw [hs] at h1; cases h1
      | some r =>
        obtain ⟨v, h'⟩ := r
        rw [hs] at h1
        exact ⟨s', h1, h2⟩
    · rw [if_neg hw] at h1 ⊢
      exact ⟨s', h1, h2⟩
  · intro h
    by_cases hw : wantS ops s.T o = true
    · rw [if_pos hw] at h
      cases hs : sop P call s.T s.h o.op with
      | none => rw [hs] at h; exact h.elim
      | some r =>
        obtain ⟨v, h'⟩ := r
        rw [hs] at h
        exact .step hw hs h
    · rw [if_neg hw] at h
      exact .pass (by simpa using hw) h
section
variable {ops : Array Oper} {l : List Oper} {dst : Option Tmp} {T : Tr} {h : SHeap} {v : Value}
theorem wkr_some : WKR P call n ops l dst T k (some (v, h)) = WKL P call n ops l ⟨T.put dst v, h⟩ k := rfl
theorem wkr_map {r : Option Value} : WKR P call n ops l dst T k (r.map (·, h)) = WKO P call n ops l dst T h k r := by cases r <;> rfl
theorem wkr_map2 {r : Option SHeap} : WKR P call n ops l dst T k (r.map (v, ·)) = WKR P call n ops l dst T k (match r with | some h => some (v, h) | none => none) := by cases r <;> rfl
theorem wko_some : WKO P call n ops l dst T h k (some v) = WKL P call n ops l ⟨T.put dst v, h⟩ k := rfl
theorem WKR.of {r : Option (Value × SHeap)} {h' : SHeap} (hr : r = some (v, h')) (hk : WKL P call n ops l ⟨T.put dst v, h'⟩ k) : WKR P call n ops l dst T k r := by rw [hr]; exact hk
theorem WKO.of {r : Option Value} (hr : r = some v) (hk : WKL P call n ops l ⟨T.put dst v, h⟩ k) : WKO P call n ops l dst T h k r := by rw [hr]; exact hk
end
theorem WK.loop {c : Code} (I : Nat → St → Prop) (N : Nat) (hN : N < n) (h0 : I 0 s)
    (hr : ∀ i s, i ≤ N → I i s → WK P call n c s (.inv (fun s' => i < N ∧ I (i + 1) s') k)) : WK P call n (.loop c) s k :=
  WS.loop I N hN h0 fun i s hi hI => (hr i s hi hI).mono fun e s' he => by cases e <;> exact he

theorem get_leaf (t : Nat) : Tr.leaf.get t = undef := rfl
theorem want_none {ops : Array Oper} {T : Tr} {o : Oper} (h : o.guard = none) : wantS ops T o = true := by simp [wantS, h]
theorem ev_tmp {T : Tr} {t : Nat} : ev T (.tmp t) = T.get t := rfl
theorem ev_const {T : Tr} {v : Value} : ev T (.const v) = v := rfl
theorem ev_global {T : Tr} {g : Nat} : ev T (.global g) = .pointer (some ⟨g, 0, none⟩) := rfl
theorem ev_func {T : Tr} {f : Nat} : ev T (.func f) = .func (.func f) #[] #[] := rfl
end

theorem max2 {k : IntKind} {x y : Int} : maxS [.int k x, .int k y] = some (.int k (if y > x then y else x)) := rfl
theorem min2 {k : IntKind} {x y : Int} : minS [.int k x, .int k y] = some (.int k (if y < x then y else x)) := rfl
def wantG : Value → Bool → Bool
  | .bool b, w => b == w
  | _, _ => false
noncomputable def wantD : Option Tmp → Tr → Bool → Bool
  | some d, T, w => wantG (T.get d) w
  | none, _, _ => false
theorem want_some {ops : Array Oper} {T : Tr} {dst : Option Tmp} {op : Op} {type : TypeId} {pos : String} {after : Array Edge} {j : Nat} {w : Bool} : wantS ops T ⟨dst, op, type, pos, after, some (j, w)⟩ = wantD ((ops[j]?).bind (·.dst)) T w := by
  simp only [wantS]
  cases (ops[j]?).bind (·.dst) with
  | none => rfl
  | some d => simp only [wantD]; cases T.get d <;> rfl
theorem wantD_some {d : Tmp} {T : Tr} {w : Bool} : wantD (some d) T w = wantG (T.get d) w := rfl
theorem wantG_undef {w : Bool} : wantG undef w = false := by cases w <;> rfl
theorem wantG_true {b : Bool} : wantG (.bool b) true = b := by simp [wantG]
theorem wantG_false {b : Bool} : wantG (.bool b) false = !b := by simp [wantG]
theorem wantG_bool {b w : Bool} : wantG (.bool b) w = (b == w) := rfl

theorem call_is {P : Program} {call : SCall} {n : Nat} {f : FuncId} {args : List Value} {h h' : SHeap} {fn : Func} {c : Code} {V : Value} (hf : P.funcs[f]? = some fn) (hb : fn.body = some c) (hl : args.length ≤ fn.ntmps)
    (hw : WK P call n c ⟨tmps0 0 args .leaf, h⟩ (.top fun e s => (e = .normal ∨ e = .ret) ∧ ∃ vs, resS P s fn.results.toList = some vs ∧ resV vs = V ∧ s.h = h')) : bodyF P call n f args h = some (V, h') := by
  obtain ⟨v, h1, h2, rfl, rfl⟩ := call_body (R := fun u h'' => u = V ∧ h'' = h') hf hb hl hw
  exact h2

theorem call_ex {P : Program} {call : SCall} {n : Nat} {f : FuncId} {args : List Value} {h : SHeap} {fn : Func} {c : Code} {V : Value} {R : SHeap → Prop} (hf : P.funcs[f]? = some fn) (hb : fn.body = some c) (hl : args.length ≤ fn.ntmps)
    (hw : WK P call n c ⟨tmps0 0 args .leaf, h⟩ (.top fun e s => (e = .normal ∨ e = .ret) ∧ ∃ vs, resS P s fn.results.toList = some vs ∧ resV vs = V ∧ R s.h)) : ∃ h', bodyF P call n f args h = some (V, h') ∧ R h' := by
  obtain ⟨v, h1, h2, rfl, h3⟩ := call_body (R := fun u h'' => u = V ∧ R h'') hf hb hl hw
  exact ⟨h1, h2, h3⟩

/-- A drawn region whose reads are all in order with what writes. -/
def quietD (P : Program) (ops : Array Oper) : Bool := (List.range ops.size).all fun k => match ops[k]? with
  | none => true
  | some o => match clsOf o.op with
    | .read _ => !looseRead ops k
    | .act => !looseAct ops k
    | .store => (looseReads ops k).isEmpty
    | .new => true
    | .pure => match o.op with
      | .call c => (match c.argTypes.toList with | [t] => (match P.underlying t with | some (.map _ _) => false | some (.array _ _) => false | _ => true) | _ => true)
      | _ => true

theorem quiet_step {P : Program} {call : SCall} {ops : Array Oper} (hq : quietD P ops = true) {start i : Nat} {o : Oper} (ho : ops[i]? = some o) {s s' : St} (h : stepS P call ops o s = some s') : stepD P call ops start i o s = some s' := by
  have hlt : i < ops.size := (Array.getElem?_eq_some_iff.1 ho).1
  have hk := List.all_eq_true.1 hq i (List.mem_range.2 hlt)
  simp only [ho] at hk
  unfold stepD
  by_cases hw : wantS ops s.T o = true
  · rw [if_pos hw]
    cases hc : clsOf o.op with
    | read a =>
      rw [hc] at hk
      simp only [Bool.not_eq_true'] at hk
      simp [hk, h]
    | act =>
      rw [hc] at hk
      simp only [Bool.not_eq_true'] at hk
      simp [hk, h]
    | new => exact h
    | store =>
      rw [hc] at hk
      simp only [List.isEmpty_iff] at hk
      simp only [hk, List.all_nil, if_true]
      split
      · exact h
      · exact h
      · exact h
      · rename_i h1 h1' h2
        cases hop : o.op with
        | store t a x => exact absurd hop (h1 t a x)
        | mapUpdate t a k x => exact absurd hop (h2 t a k x)
        | insert t a k x => exact absurd hop (h1' t a k x)
        | call c =>
          rw [hop] at hc
          simp only [clsOf] at hc
          split at hc <;> cases hc
        | _ => rw [hop] at hc; simp [clsOf] at hc
    | pure =>
      rw [hc] at hk
      simp only at hk ⊢
      cases hop : o.op with
      | call c =>
        simp only [hop] at hk ⊢
        split
        · rename_i r hargs
          exfalso
          obtain ⟨v, h', hs, _⟩ := stepS_some hw h
          rw [hop] at hs hc
          simp only [clsOf] at hc
          simp only [sop, callS, evs, hargs] at hs
          split at hs
          · split at hs
            · rename_i t x h1 h2
              cases h2
              simp only [h1] at hk
              simp only [lenS] at hs
              split at hk
              · cases hk
              · cases hk
              · rename_i hne1 hne2
                cases hu : P.underlying t with
                | none => simp [hu] at hs
                | some d => cases d <;> (first | (simp [hu] at hs; done) | (exact hne1 _ _ hu) | (exact hne2 _ _ hu))
            · cases hs
          all_goals first | (simp [maxS, minS] at hs; done) | (simp_all; done)
        · exact h
      | _ => exact h
  · rw [if_neg hw]
    unfold stepS at h
    rw [if_neg hw] at h
    exact h

theorem WK.quiet {P : Program} {call : SCall} {n id : Nat} {ops : Array Oper} {s : St} {k : Kont} (hq : quietD P ops = true) (h : WKL P call n ops ops.toList s k) : WK P call n (.region id ops true) s k := by
  obtain ⟨s', h1, h2⟩ := h
  have key : ∀ (l : List Oper) (i : Nat) (s : St), (∀ k, l[k]? = ops[i + k]?) → seqS P call ops l s = some s' → ∀ start, seqD P call ops start i l s = some s' := by
    intro l
    induction l with
    | nil => intro i s _ h start; exact h
    | cons o l ih =>
      intro i s hl h start
      simp only [seqS] at h
      split at h
      · rename_i s1 h3
        have ho : ops[i]? = some o := by simpa using (hl 0).symm
        simp only [seqD, quiet_step hq ho h3]
        exact ih (i + 1) s1 (fun k => by have := hl (k + 1); simpa [Nat.add_assoc, Nat.add_comm 1 k] using this) h start
      · cases h
  exact .draw ⟨s', key _ 0 s (by simp) h1 _, h2⟩

theorem bin_and {P : Program} {t : TypeId} {x y : Operand} {k : IntKind} {a b : Int} : binS P .and t x y (.int k a) (.int k b) = some (.int k (bits .and k a b)) := by
  simp [binS, flat, flat1, pureRun, Go.eqGuard, Go.binOp, Op.intBits, bits, Bind.bind, Sem.bind, Pure.pure]
theorem bin_shr {P : Program} {t : TypeId} {x y : Operand} {k k' : IntKind} {a b : Int} (hb : ¬ b < 0) : binS P .shr t x y (.int k a) (.int k' b) = some (.int k (a.fdiv (2 ^ min b.toNat k.bits))) := by
  simp [binS, flat, flat1, pureRun, Go.eqGuard, Go.binOp, Op.shift, hb, Bind.bind, Sem.bind, Pure.pure]
theorem conv_int {P : Program} {h : SHeap} {src dst : TypeId} {d : TypeDesc} {k0 k : IntKind} {x : Int} (hs : P.underlying src = some d) (hd : P.underlying dst = some (.int k)) : convS P h src dst (.int k0 x) = some (.int k (k.wrap x)) := by
  simp [convS, hs, hd]

/-! ### The kinds of 64 bits -/

theorem wrap_uid {x : Int} (h1 : 0 ≤ x) (h2 : x < 18446744073709551616) : IntKind.u64.wrap x = x := by
  simp [IntKind.wrap, IntKind.bits, IntKind.signed]
  omega
theorem wrap_umod (a : Nat) : IntKind.u64.wrap (a : Int) = ((a % 18446744073709551616 : Nat) : Int) := by
  simp [IntKind.wrap, IntKind.bits, IntKind.signed]


theorem wrap_id {x : Int} (h1 : -9223372036854775808 ≤ x) (h2 : x < 9223372036854775808) : IntKind.i64.wrap x = x := by
  simp [IntKind.wrap, IntKind.bits, IntKind.signed]
  omega

/-! ### Truth values -/

theorem wk_tt {p q : Prop} : ((true = true → p) ∧ (true = false → q)) = p := by
  apply propext; exact ⟨fun h => h.1 rfl, fun h => ⟨fun _ => h, fun h => (by cases h)⟩⟩
theorem wk_ff {p q : Prop} : ((false = true → p) ∧ (false = false → q)) = q := by
  apply propext; exact ⟨fun h => h.2 rfl, fun h => ⟨fun h => (by cases h), fun _ => h⟩⟩

theorem flat_bool {b : Bool} : flat (.bool b) = true := rfl
theorem flat_int {k : IntKind} {x : Int} : flat (.int k x) = true := rfl
theorem pure_not {P : Program} {b : Bool} : pureRun P (Op.unary .not (.bool b)) = some (.bool !b) := rfl
theorem pure_neg {P : Program} {k : IntKind} {x : Int} : pureRun P (Op.unary .neg (.int k x)) = some (.int k (k.wrap (0 - x))) := rfl
theorem pureRun_bind {P : Program} {α β : Type} (m : Sem α) (f : α → Sem β) : pureRun P (m >>= f) = (pureRun P m).bind fun a => pureRun P (f a) := by
  induction m with
  | pure a => rfl
  | program k ih => exact ih P
  | mark x k ih => exact ih
  | _ => rfl
theorem pureRun_under {P : Program} {t : TypeId} {d : TypeDesc} (h : P.underlying t = some d) : pureRun P (underlying t) = some d := by
  show pureRun P (Sem.bind program _) = _
  simp [program, Sem.bind, pureRun, h, Pure.pure]
theorem pure_eqb {P : Program} {t : TypeId} {a b : Bool} (h : P.underlying t = some .bool) : pureRun P (Op.equal t (.bool a) (.bool b)) = some (a == b) := by
  have key : ∀ d, pureRun P (Op.equalIn (d + 1) t (.bool a) (.bool b)) = some (a == b) := by
    intro d
    rw [Op.equalIn, pureRun_bind, pureRun_under h]
    rfl
  exact key 9999
theorem bin_eqb {P : Program} {t : TypeId} {x y : Operand} {a b : Bool} (h : P.underlying t = some .bool) : binS P .eql t x y (.bool a) (.bool b) = some (.bool (a == b)) := by
  have e : pureRun P (do eqGuard .eql t x y (.bool a) (.bool b); binOp .eql t (.bool a) (.bool b)) = some (.bool (a == b)) := by
    show pureRun P ((do pure (.bool (← Op.equal t (.bool a) (.bool b)))) : Sem Value) = _
    rw [pureRun_bind, pure_eqb h]
    rfl
  simp only [binS, flat_bool, Bool.and_self, if_true, e]
theorem bin_neqb {P : Program} {t : TypeId} {x y : Operand} {a b : Bool} (h : P.underlying t = some .bool) : binS P .neq t x y (.bool a) (.bool b) = some (.bool (a != b)) := by
  have e : pureRun P (do eqGuard .neq t x y (.bool a) (.bool b); binOp .neq t (.bool a) (.bool b)) = some (.bool (a != b)) := by
    show pureRun P ((do pure (.bool (!(← Op.equal t (.bool a) (.bool b))))) : Sem Value) = _
    rw [pureRun_bind, pure_eqb h]
    rfl
  simp only [binS, flat_bool, Bool.and_self, if_true, e]

/-! ### Rows of integers -/

/-- A slice whose elements are these integers. -/
def IntsAt (h : SHeap) (v : Value) (l : List Int) : Prop := ∃ a c, v = .slice a l.length c ∧ (∀ b, a = some b → b.spot = none) ∧ ∀ k x, l[k]? = some x → ∃ id off cs ty g ro, a = some ⟨id, off, none⟩ ∧ h.get id = .row cs ty g ro ∧ cs[off + k]? = some (.int .i64 x)

section
variable {P : Program} {h : SHeap} {v : Value} {l : List Int} {t e : TypeId}
theorem IntsAt.len (hv : IntsAt h v l) (ht : P.underlying t = some (.slice e)) : lenS P h t v = some (.int .i64 l.length) := by
  obtain ⟨a, c, rfl, _, _⟩ := hv
  simp [lenS, ht]
theorem IntsAt.idx (hv : IntsAt h v l) (ht : P.underlying t = some (.slice e)) (he : szOf P e = some 1) (ha : aggOf P e = some false) {k : Nat} {x : Int} (hk : l[k]? = some x) {kd : IntKind} :
    ∃ p, idxAddr P t v (.int kd k) = some p ∧ loadS P h e p = some (.int .i64 x) := by
  obtain ⟨a, c, rfl, _, hall⟩ := hv
  obtain ⟨id, off, cs, ty, g, ro, rfl, hg, hc⟩ := hall k x hk
  have hlt : k < l.length := (List.getElem?_eq_some_iff.1 hk).1
  refine ⟨.pointer (some ⟨id, off + k, none⟩), ?_, ?_⟩
  · simp [idxAddr, ht, he, hlt, Addr.add]
  · simp [loadS, hg, ha, hc]
end
end Go.Sx
