/- Stepping through a drawn region whose reads are not all in order with what writes: the flags are laid out beside the operations. -/
import Derived.Test.YtdnnjkneablfiaaGreatDoorSx17
namespace Go.Sx
open Go
set_option linter.unusedSimpArgs false
set_option linter.unusedVariables false

def flagsOf (ops : Array Oper) : List (Bool × Bool × List Operand) := (List.range ops.size).map fun k => (looseRead ops k, looseAct ops k, looseReads ops k)

noncomputable def notMap (op : Op) (T : Tr) : Bool := match op with
  | .call c => (match c.args.toList.map (ev T) with | [.map _] => false | _ => true)
  | _ => true
def target : Op → Operand
  | .store _ a _ => a
  | .mapUpdate _ m _ _ => m
  | .insert _ m _ _ => m
  | _ => .const undef

section
variable (P : Program) (call : SCall) (n : Nat) (ops : Array Oper) (start : Nat)
noncomputable def stepF (f : Bool × Bool × List Operand) (o : Oper) (s : St) : Option St :=
  if wantS ops s.T o then match clsOf o.op with
    | .read a => if f.1 && !ahead start (idOf (ev s.T a)) then none else stepS P call ops o s
    | .act => if f.2.1 then match stepS P call ops o ⟨s.T, s.h.fl (max s.h.floor start)⟩ with
        | some s' => some ⟨s'.T, s'.h.fl s.h.floor⟩
        | none => none
      else stepS P call ops o s
    | .store => if f.2.2.all (fun x => idOf (ev s.T x) != idOf (ev s.T (target o.op))) then stepS P call ops o s else none
    | .pure => if notMap o.op s.T then stepS P call ops o s else none
    | .new => stepS P call ops o s
  else some ⟨s.T.put o.dst undef, s.h⟩

theorem stepF_D {i : Nat} {o : Oper} {s s' : St} (h : stepF P call ops start (looseRead ops i, looseAct ops i, looseReads ops i) o s = some s') : stepD P call ops start i o s = some s' := by
  unfold stepF at h
  unfold stepD
  by_cases hw : wantS ops s.T o = true
  · rw [if_pos hw] at h ⊢
    cases hc : clsOf o.op with
    | read a => rw [hc] at h; exact h
    | act => rw [hc] at h; exact h
    | new => rw [hc] at h; exact h
    | store =>
      rw [hc] at h
      cases hop : o.op with
      | store t a x => rw [hop] at h; exact h
      | mapUpdate t a k x => rw [hop] at h; exact h
      | insert t a k x => rw [hop] at h; exact h
      | call c =>
        rw [hop] at hc
        simp only [clsOf] at hc
        split at hc <;> cases hc
      | _ => rw [hop] at hc; simp [clsOf] at hc
    | pure =>
      rw [hc] at h
      simp only at h ⊢
      cases hop : o.op with
      | call c =>
        simp only [hop, notMap] at h ⊢
        split
        · rename_i r hr
          rw [hr] at h
          simp at h
        · rename_i hne
          split at h
          · rename_i r hr; exact absurd hr (hne r)
          · exact h
      | _ => simp only [hop, notMap, if_true] at h ⊢; exact h
  · rw [if_neg hw] at h ⊢
    exact h

noncomputable def seqF : List (Bool × Bool × List Operand) → List Oper → St → Option St
  | _, [], s => some s
  | f :: fs, o :: l, s => match stepF P call ops start f o s with
    | some s' => seqF fs l s'
    | none => none
  | [], _ :: _, _ => none

def WKF (fs : List (Bool × Bool × List Operand)) (l : List Oper) (s : St) (k : Kont) : Prop := ∃ s', seqF P call ops start fs l s = some s' ∧ k.ap P call n .normal s'
def WKFR (fs : List (Bool × Bool × List Operand)) (l : List Oper) (dst : Option Tmp) (T : Tr) (fl : Nat) (k : Kont) : Option (Value × SHeap) → Prop
  | some (v, h) => WKF P call n ops start fs l ⟨T.put dst v, h.fl fl⟩ k
  | none => False
def WKFC (lr la : Bool) (ls : List Operand) (fs : List (Bool × Bool × List Operand)) (o : Oper) (l : List Oper) (s : St) (k : Kont) : Cls → Prop
  | .read a => (lr = true → ahead start (idOf (ev s.T a)) = true) ∧ WKFR P call n ops start fs l o.dst s.T s.h.floor k (sop P call s.T s.h o.op)
  | .act => WKFR P call n ops start fs l o.dst s.T s.h.floor k (sop P call s.T (if la then s.h.fl (max s.h.floor start) else s.h) o.op)
  | .store => (ls.all (fun x => idOf (ev s.T x) != idOf (ev s.T (target o.op))) = true) ∧ WKFR P call n ops start fs l o.dst s.T s.h.floor k (sop P call s.T s.h o.op)
  | .pure => notMap o.op s.T = true ∧ WKFR P call n ops start fs l o.dst s.T s.h.floor k (sop P call s.T s.h o.op)
  | .new => WKFR P call n ops start fs l o.dst s.T s.h.floor k (sop P call s.T s.h o.op)
end

section
variable {P : Program} {call : SCall} {n : Nat} {ops : Array Oper} {start : Nat} {fs : List (Bool × Bool × List Operand)} {l : List Oper} {s : St} {k : Kont}

theorem fl_same (h : SHeap) : h.fl h.floor = h := rfl

theorem WKF.cons {lr la : Bool} {ls : List Operand} {o : Oper} (hsn : ∀ v h', ∀ h : SHeap, sop P call s.T h o.op = some (v, h') → h'.floor = h.floor)
    (h : if wantS ops s.T o then WKFC P call n ops start lr la ls fs o l s k (clsOf o.op) else WKF P call n ops start fs l ⟨s.T.put o.dst undef, s.h⟩ k) : WKF P call n ops start ((lr, la, ls) :: fs) (o :: l) s k := by
  by_cases hw : wantS ops s.T o = true
  · rw [if_pos hw] at h
    have plain : WKFR P call n ops start fs l o.dst s.T s.h.floor k (sop P call s.T s.h o.op) → ∃ s', stepS P call ops o s = some s' ∧ WKF P call n ops start fs l s' k := by
      intro h
      cases hs : sop P call s.T s.h o.op with
      | none => rw [hs] at h; exact h.elim
      | some r =>
        obtain ⟨v, h'⟩ := r
        rw [hs] at h
        have hf := hsn v h' s.h hs
        refine ⟨⟨s.T.put o.dst v, h'⟩, by simp only [stepS, hw, if_true, hs], ?_⟩
        have e : h'.fl s.h.floor = h' := by rw [← hf]; rfl
        have h2 : WKF P call n ops start fs l ⟨s.T.put o.dst v, h'.fl s.h.floor⟩ k := h
        rw [e] at h2
        exact h2
    have fin : ∀ s', stepF P call ops start (lr, la, ls) o s = some s' → WKF P call n ops start fs l s' k → WKF P call n ops start ((lr, la, ls) :: fs) (o :: l) s k := by
      rintro s' h1 ⟨s2, h2, h3⟩
      exact ⟨s2, by simp only [seqF, h1, h2], h3⟩
    cases hc : clsOf o.op with
    | read a =>
      rw [hc] at h
      obtain ⟨h0, h1⟩ := h
      obtain ⟨s', h2, h3⟩ := plain h1
      refine fin s' ?_ h3
      unfold stepF
      rw [if_pos hw, hc]
      simp only
      cases lr with
      | false => simpa using h2
      | true => rw [h0 rfl]; simpa using h2
    | new =>
      rw [hc] at h
      obtain ⟨s', h2, h3⟩ := plain h
      refine fin s' ?_ h3
      unfold stepF
      rw [if_pos hw, hc]
      exact h2
    | pure =>
      rw [hc] at h
      obtain ⟨h0, h1⟩ := h
      obtain ⟨s', h2, h3⟩ := plain h1
      refine fin s' ?_ h3
      unfold stepF
      rw [if_pos hw, hc]
      simp only [h0, if_true]
      exact h2
    | store =>
      rw [hc] at h
      obtain ⟨h0, h1⟩ := h
      obtain ⟨s', h2, h3⟩ := plain h1
      refine fin s' ?_ h3
      unfold stepF
      rw [if_pos hw, hc]
      simp only [h0, if_true]
      exact h2
    | act =>
      rw [hc] at h
      cases la with
      | false =>
        obtain ⟨s', h2, h3⟩ := plain h
        refine fin s' ?_ h3
        unfold stepF
        rw [if_pos hw, hc]
        simpa using h2
      | true =>
        have h : WKFR P call n ops start fs l o.dst s.T s.h.floor k (sop P call s.T (s.h.fl (max s.h.floor start)) o.op) := h
        cases hs : sop P call s.T (s.h.fl (max s.h.floor start)) o.op with
        | none => rw [hs] at h; exact h.elim
        | some r =>
          obtain ⟨v, h'⟩ := r
          rw [hs] at h
          refine fin ⟨s.T.put o.dst v, h'.fl s.h.floor⟩ ?_ h
          unfold stepF
          rw [if_pos hw, hc]
          simp only [stepS, hw, if_true, hs]
  · rw [if_neg hw] at h
    obtain ⟨s2, h2, h3⟩ := h
    refine ⟨s2, ?_, h3⟩
    simp only [seqF, stepF]
    rw [if_neg hw]
    exact h2

theorem wkfr_some {dst : Option Tmp} {T : Tr} {fl : Nat} {v : Value} {h : SHeap} : WKFR P call n ops start fs l dst T fl k (some (v, h)) = WKF P call n ops start fs l ⟨T.put dst v, h.fl fl⟩ k := rfl
theorem wkf_nil : WKF P call n ops start fs [] s k = k.ap P call n .normal s := by
  apply propext
  refine ⟨fun ⟨s', h1, h2⟩ => ?_, fun h => ⟨s, by cases fs <;> rfl, h⟩⟩
  cases fs <;> (cases h1; exact h2)
theorem fl_fl {h : SHeap} {a b : Nat} : (h.fl a).fl b = h.fl b := rfl
theorem fl_self {h : SHeap} : h.fl h.floor = h := rfl
theorem fl_push {h : SHeap} {o : SObj} : (h.push o).fl h.floor = h.push o := rfl
theorem fl_floor {h : SHeap} {a : Nat} : (h.fl a).floor = a := rfl

theorem WK.flags {id : Nat} {fs : List (Bool × Bool × List Operand)} (hf : flagsOf ops = fs) (h : WKF P call n ops s.h.next fs ops.toList s k) : WK P call n (.region id ops true) s k := by
  obtain ⟨s', h1, h2⟩ := h
  refine WS.draw ⟨s', ?_, h2⟩
  have key : ∀ (l : List Oper) (i : Nat) (s : St) (start : Nat), (∀ k, l[k]? = ops[i + k]?) → i + l.length = ops.size → seqF P call ops start (fs.drop i) l s = some s' → seqD P call ops start i l s = some s' := by
    intro l
    induction l with
    | nil => intro i s start _ _ h; cases hd : fs.drop i <;> (rw [hd] at h; exact h)
    | cons o l ih =>
      intro i s start hl hlen h
      have hi : i < ops.size := by simp at hlen; omega
      have hfi : fs[i]? = some (looseRead ops i, looseAct ops i, looseReads ops i) := by
        rw [← hf]
        unfold flagsOf
        rw [List.getElem?_map, List.getElem?_range hi]
        rfl
      have hlt : i < fs.length := (List.getElem?_eq_some_iff.1 hfi).1
      rw [List.drop_eq_getElem_cons hlt] at h
      have he : fs[i] = (looseRead ops i, looseAct ops i, looseReads ops i) := by
        rw [List.getElem?_eq_getElem hlt] at hfi
        exact Option.some.inj hfi
      rw [he] at h
      simp only [seqF] at h
      split at h
      · rename_i s1 h3
        simp only [seqD, stepF_D P call ops start h3]
        exact ih (i + 1) s1 start (fun k => by have := hl (k + 1); simpa [Nat.add_assoc, Nat.add_comm 1 k] using this) (by simp at hlen; omega) h
      · cases h
  exact key _ 0 s _ (by simp) (by simp) (by simpa using h1)
end
end Go.Sx
