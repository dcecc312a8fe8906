/- A region whose order is open: what stands before what; its trace. -/
import Derived.Test.YtdnnjkneablfiaaGreatDoorSx9
namespace Go.Sx
open Go
set_option linter.unusedSimpArgs false
set_option linter.unusedVariables false

def entry (acc : Array Nat) (o : Oper) : Nat := o.after.foldl (fun s e => if Region.binds .any e then s ||| 2 ^ e.on ||| acc.getD e.on 0 else s) 0

theorem before_list (l : List Oper) : ∀ acc : Array Nat, let r := l.foldl (fun acc o => acc.push (entry acc o)) acc
    r.size = acc.size + l.length ∧ (∀ k, k < acc.size → r.getD k 0 = acc.getD k 0) ∧
    ∀ m o, l[m]? = some o → ∃ acc' : Array Nat, acc'.size = acc.size + m ∧ (∀ k, k < acc'.size → acc'.getD k 0 = r.getD k 0) ∧ r.getD (acc.size + m) 0 = entry acc' o := by
  induction l with
  | nil => intro acc; simp
  | cons o l ih =>
    intro acc
    obtain ⟨h1, h2, h3⟩ := ih (acc.push (entry acc o))
    simp only [List.foldl_cons]
    simp only [Array.size_push] at h1 h2 h3
    refine ⟨by rw [h1]; simp; omega, fun k hk => ?_, fun m o' hm => ?_⟩
    · rw [h2 k (by omega)]
      simp [Array.getD_eq_getD_getElem?, Array.getElem?_push, Nat.ne_of_lt hk]
    · cases m with
      | zero =>
        simp at hm
        subst hm
        refine ⟨acc, rfl, fun k hk => ?_, ?_⟩
        · rw [h2 k (by omega)]
          simp [Array.getD_eq_getD_getElem?, Array.getElem?_push, Nat.ne_of_lt hk]
        · rw [Nat.add_zero, h2 _ (by omega)]
          simp
      | succ m =>
        obtain ⟨acc', ha, hb, hc⟩ := h3 m o' (by simpa using hm)
        exact ⟨acc', by omega, hb, by rw [← hc]; congr 1; omega⟩

theorem entry_bit {acc : Array Nat} {o : Oper} {i : Nat} (h : (entry acc o).testBit i = true) : ∃ e ∈ o.after, Region.binds .any e = true ∧ (e.on = i ∨ (acc.getD e.on 0).testBit i = true) := by
  unfold entry at h
  rw [← Array.foldl_toList] at h
  have key : ∀ (l : List Edge) (s : Nat), (l.foldl (fun s e => if Region.binds .any e then s ||| 2 ^ e.on ||| acc.getD e.on 0 else s) s).testBit i = true → s.testBit i = true ∨ ∃ e ∈ l, Region.binds .any e = true ∧ (e.on = i ∨ (acc.getD e.on 0).testBit i = true) := by
    intro l
    induction l with
    | nil => intro s h; exact .inl h
    | cons e l ih =>
      intro s h
      rw [List.foldl_cons] at h
      rcases ih _ h with h1 | ⟨e', he', h2⟩
      · split at h1
        · rename_i hb
          simp only [Nat.testBit_or, Bool.or_eq_true] at h1
          rcases h1 with (h1 | h1) | h1
          · exact .inl h1
          · rw [Nat.testBit_two_pow] at h1
            exact .inr ⟨e, by simp, hb, .inl (by simpa using h1)⟩
          · exact .inr ⟨e, by simp, hb, .inr h1⟩
        · exact .inl h1
      · exact .inr ⟨e', by simp [he'], h2⟩
  rcases key _ 0 h with h1 | ⟨e, he, h2⟩
  · simp at h1
  · exact ⟨e, by simpa using he, h2⟩

theorem before_bit {ops : Array Oper} {j i : Nat} (h : ((Region.before ops).getD j 0).testBit i = true) :
    ∃ o, ops[j]? = some o ∧ ∃ e ∈ o.after, Region.binds .any e = true ∧ (e.on = i ∨ (e.on < j ∧ ((Region.before ops).getD e.on 0).testBit i = true)) := by
  have hb : Region.before ops = ops.toList.foldl (fun acc o => acc.push (entry acc o)) #[] := by
    unfold Region.before
    rw [← Array.foldl_toList]
    rfl
  obtain ⟨h1, _, h3⟩ := before_list ops.toList #[]
  simp only [← hb] at h1 h3
  simp only [List.size_toArray, List.length_nil, Nat.zero_add] at h1 h3
  cases ho : ops[j]? with
  | none =>
    have hge : ops.size ≤ j := by simpa using ho
    have : (Region.before ops).getD j 0 = 0 := by
      rw [Array.getD_eq_getD_getElem?, Array.getElem?_eq_none (by rw [h1]; simpa using hge)]
      rfl
    rw [this] at h
    simp at h
  | some o =>
    obtain ⟨acc', ha, hbb, hc⟩ := h3 j o (by simpa using ho)
    rw [hc] at h
    obtain ⟨e, he, hbd, hor⟩ := entry_bit h
    refine ⟨o, rfl, e, he, hbd, hor.imp id fun hbit => ?_⟩
    have hlt : e.on < acc'.size := by
      rcases Nat.lt_or_ge e.on acc'.size with hl | hl
      · exact hl
      · rw [Array.getD_eq_getD_getElem?, Array.getElem?_eq_none hl] at hbit
        simp at hbit
    exact ⟨by omega, by rw [← hbb _ hlt]; exact hbit⟩

/-- The checks on a region, made once. -/
def drawOK (ops : Array Oper) : Bool :=
  let b := Region.before ops
  (List.range ops.size).all fun j => match ops[j]? with
    | none => false
    | some oj =>
      oj.after.toList.all (fun e => !Region.binds .any e || decide (e.on < j)) &&
      (List.range ops.size).all fun i => match ops[i]? with
        | none => false
        | some oi =>
          (!((isAct oj || isStore oj) && (isAct oi || isStore oi || isNew oi) && decide (i < j)) || (b.getD j 0).testBit i) &&
          (!(isStore oj && isRead oi && decide (j < i)) || (b.getD i 0).testBit j) &&
          (!(i != j && (match oi.dst with | some d => (oj.looksAt ops).contains d || oj.dst == some d | none => false)) || ((b.getD j 0).testBit i || (b.getD i 0).testBit j)) &&
          (!(isStore oj && decide (i < j)) || (match clsOf oi.op with
            | .read a => !(unord b i j) || (List.range ops.size).all (fun k => !(decide (i ≤ k) && decide (k < j)) || (match ops[k]? with | some ok => (match ok.dst, a with | some d, .tmp t => d != t | _, _ => true) | none => true))
            | _ => true))

structure DOK (ops : Array Oper) : Prop where
  edge : ∀ j oj, ops[j]? = some oj → ∀ e ∈ oj.after, Region.binds .any e = true → e.on < j
  s2 : ∀ j i oj oi, ops[j]? = some oj → ops[i]? = some oi → (isAct oj = true ∨ isStore oj = true) → (isAct oi = true ∨ isStore oi = true ∨ isNew oi = true) → i < j → ((Region.before ops).getD j 0).testBit i = true
  s4 : ∀ j i oj oi, ops[j]? = some oj → ops[i]? = some oi → isStore oj = true → isRead oi = true → j < i → ((Region.before ops).getD i 0).testBit j = true
  s6 : ∀ j i oj oi d, ops[j]? = some oj → ops[i]? = some oi → i ≠ j → oi.dst = some d → (d ∈ oj.looksAt ops ∨ oj.dst = some d) → ((Region.before ops).getD j 0).testBit i = true ∨ ((Region.before ops).getD i 0).testBit j = true
  s5 : ∀ j i k oj oi ok t, ops[j]? = some oj → ops[i]? = some oi → ops[k]? = some ok → isStore oj = true → i < j → clsOf oi.op = .read (.tmp t) → unord (Region.before ops) i j = true → i ≤ k → k < j → ok.dst ≠ some t

theorem drawOK_spec {ops : Array Oper} (h : drawOK ops = true) : DOK ops := by
  unfold drawOK at h
  simp only [List.all_eq_true, List.mem_range] at h
  have get : ∀ j oj, ops[j]? = some oj → j < ops.size := fun j oj hj => (Array.getElem?_eq_some_iff.1 hj).1
  have key : ∀ j oj, ops[j]? = some oj → (oj.after.toList.all (fun e => !Region.binds .any e || decide (e.on < j)) = true) ∧ ∀ i oi, ops[i]? = some oi →
      (!((isAct oj || isStore oj) && (isAct oi || isStore oi || isNew oi) && decide (i < j)) || ((Region.before ops).getD j 0).testBit i) = true ∧
      (!(isStore oj && isRead oi && decide (j < i)) || ((Region.before ops).getD i 0).testBit j) = true ∧
      (!(i != j && (match oi.dst with | some d => (oj.looksAt ops).contains d || oj.dst == some d | none => false)) || (((Region.before ops).getD j 0).testBit i || ((Region.before ops).getD i 0).testBit j)) = true ∧
      (!(isStore oj && decide (i < j)) || (match clsOf oi.op with
            | .read a => !(unord (Region.before ops) i j) || (List.range ops.size).all (fun k => !(decide (i ≤ k) && decide (k < j)) || (match ops[k]? with | some ok => (match ok.dst, a with | some d, .tmp t => d != t | _, _ => true) | none => true))
            | _ => true)) = true := by
    intro j oj hj
    have := h j (get j oj hj)
    rw [hj] at this
    simp only [Bool.and_eq_true] at this
    refine ⟨this.1, fun i oi hi => ?_⟩
    have h2 := List.all_eq_true.1 this.2 i (List.mem_range.2 (get i oi hi))
    rw [hi] at h2
    simp only [Bool.and_eq_true] at h2
    exact ⟨h2.1.1.1, h2.1.1.2, h2.1.2, h2.2⟩
  refine ⟨?_, ?_, ?_, ?_, ?_⟩
  · intro j oj hj e he hb
    have := List.all_eq_true.1 (key j oj hj).1 e (by simpa using he)
    simpa [hb] using this
  · intro j i oj oi hj hi h1 h2 hlt
    have := ((key j oj hj).2 i oi hi).1
    have e1 : (isAct oj || isStore oj) = true := by simpa using h1
    have e2 : (isAct oi || isStore oi || isNew oi) = true := by simpa [or_assoc] using h2
    simpa [e1, e2, hlt] using this
  · intro j i oj oi hj hi h1 h2 hlt
    have := ((key j oj hj).2 i oi hi).2.1
    simpa [h1, h2, hlt] using this
  · intro j i oj oi d hj hi hne hd hn
    have := ((key j oj hj).2 i oi hi).2.2.1
    rw [hd] at this
    have e1 : ((oj.looksAt ops).contains d || oj.dst == some d) = true := by simpa using hn
    simp only [e1, Bool.and_true] at this
    simpa [hne] using this
  · intro j i k oj oi ok t hj hi hk h1 hlt hc hu hik hkj
    have := ((key j oj hj).2 i oi hi).2.2.2
    rw [hc] at this
    simp only [h1, hlt, decide_true, Bool.and_self, Bool.not_true, Bool.false_or, hu] at this
    have h2 := List.all_eq_true.1 this k (List.mem_range.2 (get k ok hk))
    simp only [hik, hkj, decide_true, Bool.and_self, Bool.not_true, Bool.false_or, hk] at h2
    intro hd
    rw [hd] at h2
    simp at h2

theorem bit_lt {ops : Array Oper} (hD : DOK ops) : ∀ (j i : Nat), ((Region.before ops).getD j 0).testBit i = true → i < j := by
  intro j
  induction j using Nat.strongRecOn with
  | _ j ih =>
    intro i h
    obtain ⟨o, ho, e, he, hb, hor⟩ := before_bit h
    have hlt := hD.edge j o ho e he hb
    rcases hor with rfl | ⟨h1, h2⟩
    · exact hlt
    · exact Nat.lt_trans (ih e.on h1 i h2) h1

/-- What is listed holds all that stands before. -/
def Closed (ops : Array Oper) (listed : Array Bool) : Prop := ∀ j o, listed.getD j false = true → ops[j]? = some o → ∀ e ∈ o.after, Region.binds .any e = true → listed.getD e.on false = true

theorem Closed.bit {ops : Array Oper} {listed : Array Bool} (hC : Closed ops listed) : ∀ (j i : Nat), listed.getD j false = true → ((Region.before ops).getD j 0).testBit i = true → listed.getD i false = true := by
  intro j
  induction j using Nat.strongRecOn with
  | _ j ih =>
    intro i hl h
    obtain ⟨o, ho, e, he, hb, hor⟩ := before_bit h
    have h1 := hC j o hl ho e he hb
    rcases hor with rfl | ⟨h2, h3⟩
    · exact h1
    · exact ih e.on h2 i h1 h3

theorem ready_bit {ops : Array Oper} {listed : Array Bool} (hC : Closed ops listed) {j i : Nat} (hj : j ∈ Region.ready .any ops listed) (h : ((Region.before ops).getD j 0).testBit i = true) : listed.getD i false = true := by
  obtain ⟨o, ho, e, he, hb, hor⟩ := before_bit h
  obtain ⟨_, o', ho', hall⟩ := mem_ready.1 hj
  rw [ho] at ho'
  cases ho'
  have h1 := hall e he hb
  rcases hor with rfl | ⟨h2, h3⟩
  · exact h1
  · exact hC.bit _ _ h1 h3

theorem Closed.set {ops : Array Oper} {listed : Array Bool} (hC : Closed ops listed) {j : Nat} (hj : j ∈ Region.ready .any ops listed) : Closed ops (listed.setIfInBounds j true) := by
  intro k o hk ho e he hb
  by_cases e1 : j = k
  · subst e1
    obtain ⟨_, o', ho', hall⟩ := mem_ready.1 hj
    rw [ho] at ho'
    cases ho'
    exact getD_set_true (hall e he hb)
  · rw [getD_set_ne false e1] at hk
    exact getD_set_true (hC k o hk ho e he hb)

/-! ### The trace -/

theorem seqD_trace {P : Program} {call : SCall} {ops : Array Oper} {start : Nat} : ∀ (l : List Oper) (i : Nat) (s s' : St), seqD P call ops start i l s = some s' →
    ∃ S : Nat → St, S i = s ∧ S (i + l.length) = s' ∧ ∀ k o, l[k]? = some o → stepD P call ops start (i + k) o (S (i + k)) = some (S (i + k + 1)) := by
  intro l
  induction l with
  | nil => intro i s s' h; simp [seqD] at h; subst h; exact ⟨fun _ => s, rfl, rfl, by simp⟩
  | cons o l ih =>
    intro i s s' h
    simp only [seqD] at h
    split at h
    · rename_i s1 h1
      obtain ⟨S, hS1, hS2, hS3⟩ := ih (i + 1) s1 s' h
      refine ⟨fun k => if k ≤ i then s else S k, by simp, ?_, ?_⟩
      · dsimp only
        rw [if_neg (by simp), ← hS2]
        congr 1
        simp
        omega
      · intro k o' hk
        cases k with
        | zero =>
          simp at hk
          subst hk
          simp only [Nat.add_zero, Nat.le_refl, if_true]
          rw [if_neg (by omega), hS1]
          exact h1
        | succ k =>
          dsimp only
          rw [if_neg (by omega), if_neg (by omega)]
          have := hS3 k o' (by simpa using hk)
          rwa [show i + 1 + k = i + (k + 1) by omega] at this
    · cases h

structure Trace (P : Program) (call : SCall) (ops : Array Oper) (S : Nat → St) : Prop where
  step : ∀ k o, ops[k]? = some o → stepD P call ops (S 0).h.next k o (S k) = some (S (k + 1))

/-- What one step is. -/
inductive StepK (P : Program) (call : SCall) (ops : Array Oper) (start k : Nat) (o : Oper) (s s' : St) : Prop
  | off : wantS ops s.T o = false → s' = ⟨s.T.put o.dst undef, s.h⟩ → StepK P call ops start k o s s'
  | pure (v) : wantS ops s.T o = true → clsOf o.op = .pure → (∀ c, o.op = .call c → ∀ r, c.args.toList.map (ev s.T) ≠ [.map r]) → sop P call s.T s.h o.op = some (v, s.h) → s' = ⟨s.T.put o.dst v, s.h⟩ → StepK P call ops start k o s s'
  | read (v a) : wantS ops s.T o = true → clsOf o.op = .read a → (looseRead ops k = true → ∀ id, idOf (ev s.T a) = some id → id < start) → sop P call s.T s.h o.op = some (v, s.h) → s' = ⟨s.T.put o.dst v, s.h⟩ → StepK P call ops start k o s s'
  | new (v ob) : wantS ops s.T o = true → clsOf o.op = .new → wr ob → sop P call s.T s.h o.op = some (v, s.h.push ob) → s' = ⟨s.T.put o.dst v, s.h.push ob⟩ → StepK P call ops start k o s s'
  | act (v h1 f) : wantS ops s.T o = true → clsOf o.op = .act → s.h.floor ≤ f → (looseAct ops k = true → start ≤ f) → sop P call s.T (s.h.fl f) o.op = some (v, h1) → s' = ⟨s.T.put o.dst v, h1.fl s.h.floor⟩ → StepK P call ops start k o s s'
  | store (v a id ob) : wantS ops s.T o = true → clsOf o.op = .store → idOf (ev s.T a) = some id → (∀ x ∈ looseReads ops k, idOf (ev s.T x) ≠ some id) → id < s.h.next → s.h.floor ≤ id →
      ((∃ t x, o.op = .store t a x) ∨ (∃ t k x, o.op = .mapUpdate t a k x ∨ o.op = .insert t a k x)) → sop P call s.T s.h o.op = some (v, s.h.put id ob) → s' = ⟨s.T.put o.dst v, s.h.put id ob⟩ → StepK P call ops start k o s s'

theorem stepS_some {P : Program} {call : SCall} {ops : Array Oper} {o : Oper} {s s' : St} (hw : wantS ops s.T o = true) (h : stepS P call ops o s = some s') : ∃ v h', sop P call s.T s.h o.op = some (v, h') ∧ s' = ⟨s.T.put o.dst v, h'⟩ := by
  unfold stepS at h
  rw [if_pos hw] at h
  split at h
  · rename_i v h' hs
    cases h
    exact ⟨v, h', hs, rfl⟩
  · cases h

theorem stepK {P : Program} {call : SCall} (hcall : ∀ f args h v h', call f args h = some (v, h') → SNx h h') {ops : Array Oper} {start k : Nat} {o : Oper} {s s' : St} (h : stepD P call ops start k o s = some s') : StepK P call ops start k o s s' := by
  unfold stepD at h
  split at h
  · rename_i hw
    cases hc : clsOf o.op with
    | pure =>
      simp only [hc] at h
      have key : ∀ (hm : ∀ c, o.op = .call c → ∀ r, c.args.toList.map (ev s.T) ≠ [.map r]), stepS P call ops o s = some s' → StepK P call ops start k o s s' := by
        intro hm h
        obtain ⟨v, h', hs, rfl⟩ := stepS_some hw h
        obtain ⟨rfl, _⟩ := sop_pure hc hm hs
        exact .pure v hw hc hm hs rfl
      split at h
      · rename_i c hop
        split at h
        · cases h
        · rename_i hne
          refine key (fun c' hc' r hr => ?_) h
          rw [hop] at hc'
          cases hc'
          exact hne r hr
      · rename_i hop
        exact key (fun c' hc' => absurd hc' (hop c')) h
    | read a =>
      simp only [hc] at h
      by_cases hcond : (looseRead ops k && !ahead start (idOf (ev s.T a))) = true
      · rw [if_pos hcond] at h; cases h
      · rw [if_neg hcond] at h
        obtain ⟨v, h', hs, rfl⟩ := stepS_some hw h
        obtain ⟨rfl, _⟩ := sop_read hc hs
        refine .read v a hw hc (fun hl id hid => ?_) hs rfl
        rw [hl, hid] at hcond
        simpa [ahead] using hcond
    | new =>
      simp only [hc] at h
      obtain ⟨v, h', hs, rfl⟩ := stepS_some hw h
      obtain ⟨ob, hwr, rfl, _⟩ := sop_new hc hs
      exact .new v ob hw hc hwr hs rfl
    | act =>
      simp only [hc] at h
      split at h
      · rename_i hl
        split at h
        · rename_i s1 h1
          cases h
          obtain ⟨v, h', hs, rfl⟩ := stepS_some (s := ⟨s.T, s.h.fl (max s.h.floor start)⟩) hw h1
          exact .act v h' (max s.h.floor start) hw hc (by omega) (fun _ => by omega) hs rfl
        · cases h
      · rename_i hl
        obtain ⟨v, h', hs, rfl⟩ := stepS_some hw h
        refine .act v h' s.h.floor hw hc (Nat.le_refl _) (fun hl' => absurd hl' hl) hs ?_
        have := (sop_act hcall hc hs).floor
        obtain ⟨n, f, l⟩ := h'
        simp only at this
        subst this
        rfl
    | store =>
      simp only [hc] at h
      split at h
      · rename_i t a x hop
        split at h
        · rename_i hall
          obtain ⟨v, h', hs, rfl⟩ := stepS_some hw h
          obtain ⟨a', id, ob, hor, hid, rfl, h1, h2, _⟩ := sop_store hc hs
          have ha : a' = a := by
            rcases hor with ⟨_, _, e⟩ | ⟨_, _, _, e | e⟩
            · rw [hop] at e; cases e; rfl
            · rw [hop] at e; cases e
            · rw [hop] at e; cases e
          subst ha
          refine .store v a' id ob hw hc hid (fun y hy => ?_) h1 h2 hor hs rfl
          have := List.all_eq_true.1 hall y hy
          rw [hid] at this
          simpa using this
        · cases h
      · rename_i t a y x hop
        split at h
        · rename_i hall
          obtain ⟨v, h', hs, rfl⟩ := stepS_some hw h
          obtain ⟨a', id, ob, hor, hid, rfl, h1, h2, _⟩ := sop_store hc hs
          have ha : a' = a := by
            rcases hor with ⟨_, _, e⟩ | ⟨_, _, _, e | e⟩
            · rw [hop] at e; cases e
            · rw [hop] at e; cases e
            · rw [hop] at e; cases e; rfl
          subst ha
          refine .store v a' id ob hw hc hid (fun y hy => ?_) h1 h2 hor hs rfl
          have := List.all_eq_true.1 hall y hy
          rw [hid] at this
          simpa using this
        · cases h
      · rename_i t a y x hop
        split at h
        · rename_i hall
          obtain ⟨v, h', hs, rfl⟩ := stepS_some hw h
          obtain ⟨a', id, ob, hor, hid, rfl, h1, h2, _⟩ := sop_store hc hs
          have ha : a' = a := by
            rcases hor with ⟨_, _, e⟩ | ⟨_, _, _, e | e⟩
            · rw [hop] at e; cases e
            · rw [hop] at e; cases e; rfl
            · rw [hop] at e; cases e
          subst ha
          refine .store v a' id ob hw hc hid (fun y hy => ?_) h1 h2 hor hs rfl
          have := List.all_eq_true.1 hall y hy
          rw [hid] at this
          simpa using this
        · cases h
      · cases h
  · rename_i hw
    cases h
    exact .off (by simpa using hw) rfl

end Go.Sx
