/- Long drawn regions, stepped by number: what is ahead stays out of sight. -/
import Derived.Test.YtdnnjkneablfiaaGreatDoorSx18
namespace Go.Sx
open Go
set_option linter.unusedSimpArgs false
set_option linter.unusedVariables false

/-- A region of a function's, by its number. -/
def regionIn (r : Nat) : Code → Option (Array Oper)
  | .region i ops _ => if i = r then some ops else none
  | .seq a b => match regionIn r a with
    | some o => some o
    | none => regionIn r b
  | .cond _ a b => match regionIn r a with
    | some o => some o
    | none => regionIn r b
  | .block _ c => regionIn r c
  | .loop c => regionIn r c
  | _ => none
def regionOf (fn : Func) (r : Nat) : Array Oper := match fn.body with
  | some c => (regionIn r c).getD #[]
  | none => #[]
def seen (o : Oper) : Option Tmp × Op × Option (Nat × Bool) := (o.dst, o.op, o.guard)

section
variable {P : Program} {call : SCall} {n : Nat} {ops : Array Oper} {start : Nat} {F : List (Bool × Bool × List Operand)} {s : St} {k : Kont}
theorem wantS_seen {T : Tr} {o o' : Oper} (h : seen o = seen o') : wantS ops T o = wantS ops T o' := by
  simp only [seen, Prod.mk.injEq] at h
  unfold wantS
  rw [h.2.2]
theorem wkfc_seen {lr la : Bool} {ls : List Operand} {fs : List (Bool × Bool × List Operand)} {o o' : Oper} {l : List Oper} {c : Cls} (h : seen o = seen o') :
    WKFC P call n ops start lr la ls fs o l s k c = WKFC P call n ops start lr la ls fs o' l s k c := by
  simp only [seen, Prod.mk.injEq] at h
  cases c <;> simp only [WKFC, h.1, h.2.1]
theorem WKF.begin (h : WKF P call n ops start (F.drop 0) (ops.toList.drop 0) s k) : WKF P call n ops start F ops.toList s k := h
theorem WKF.at (i : Nat) (dst : Option Tmp) (op : Op) (g : Option (Nat × Bool)) {lr la : Bool} {ls : List Operand} (hi : (ops[i]?).map seen = some (dst, op, g)) (hf : F[i]? = some (lr, la, ls))
    (hsn : ∀ v h', ∀ h : SHeap, sop P call s.T h op = some (v, h') → h'.floor = h.floor)
    (h : if wantS ops s.T ⟨dst, op, 0, "", #[], g⟩ then WKFC P call n ops start lr la ls (F.drop (i + 1)) ⟨dst, op, 0, "", #[], g⟩ (ops.toList.drop (i + 1)) s k (clsOf op)
      else WKF P call n ops start (F.drop (i + 1)) (ops.toList.drop (i + 1)) ⟨s.T.put dst undef, s.h⟩ k) : WKF P call n ops start (F.drop i) (ops.toList.drop i) s k := by
  cases ho : ops[i]? with
  | none => rw [ho] at hi; cases hi
  | some o =>
    rw [ho] at hi
    have hs : seen o = seen ⟨dst, op, 0, "", #[], g⟩ := by simpa [seen] using hi
    have hop : o.op = op := congrArg (·.2.1) hs
    have hdst : o.dst = dst := congrArg (·.1) hs
    have e1 : F.drop i = (lr, la, ls) :: F.drop (i + 1) := by
      obtain ⟨hl, he⟩ := List.getElem?_eq_some_iff.1 hf
      rw [List.drop_eq_getElem_cons hl, he]
    have ho' : ops.toList[i]? = some o := by simpa using ho
    have e2 : ops.toList.drop i = o :: ops.toList.drop (i + 1) := by
      obtain ⟨hl, he⟩ := List.getElem?_eq_some_iff.1 ho'
      rw [List.drop_eq_getElem_cons hl, he]
    rw [e1, e2]
    refine WKF.cons (by rw [hop]; exact hsn) ?_
    rw [wantS_seen hs, wkfc_seen hs, hop, hdst]
    exact h
theorem WKF.done {i : Nat} (hl : ops.toList.drop i = []) (h : k.ap P call n .normal s) : WKF P call n ops start (F.drop i) (ops.toList.drop i) s k := by
  rw [hl, wkf_nil]
  exact h
/-- What a guard asks about. -/
theorem guard_dst {j : Nat} {o : Option Tmp × Op × Option (Nat × Bool)} (h : (ops[j]?).map seen = some o) : (ops[j]?).bind (·.dst) = o.1 := by
  cases ho : ops[j]? with
  | none => rw [ho] at h; cases h
  | some x =>
    rw [ho] at h
    cases h
    rfl
end
end Go.Sx
