/- Calls that were evaluated by themselves, over the part of the heap that they read: a table of them may be laid ahead of the reading. -/
import Derived.Test.YtdnnjkneablfiaaGreatDoorSx16
namespace Go.Sx
open Go
set_option linter.unusedSimpArgs false
set_option linter.unusedVariables false

/-! ### Values are the same -/

def eqV1 : Value → Value → Bool
  | .bool a, .bool b => a == b
  | .int k a, .int k' b => decide (k = k') && decide (a = b)
  | .string a, .string b => decide (a = b)
  | .pointer none, .pointer none => true
  | .pointer (some a), .pointer (some b) => decide (a = b)
  | .slice none n c, .slice none n' c' => Nat.beq n n' && Nat.beq c c'
  | .slice (some a) n c, .slice (some b) n' c' => decide (a = b) && Nat.beq n n' && Nat.beq c c'
  | .map none, .map none => true
  | .map (some a), .map (some b) => Nat.beq a b
  | .nilFunc, .nilFunc => true
  | .nilIface, .nilIface => true
  | _, _ => false
theorem eqV1_eq {a b : Value} (h : eqV1 a b = true) : a = b := by
  unfold eqV1 at h
  split at h <;> simp_all
def eqVs1 : List Value → List Value → Bool
  | [], [] => true
  | a :: l, b :: m => eqV1 a b && eqVs1 l m
  | _, _ => false
theorem eqVs1_eq : ∀ {l m : List Value}, eqVs1 l m = true → l = m
  | [], [], _ => rfl
  | a :: l, b :: m, h => by
    simp only [eqVs1, Bool.and_eq_true] at h
    rw [eqV1_eq h.1, eqVs1_eq h.2]
  | [], _ :: _, h => by simp [eqVs1] at h
  | _ :: _, [], h => by simp [eqVs1] at h
def eqV2 : Value → Value → Bool
  | .agg a, .agg b => eqVs1 a.toList b.toList
  | a, b => eqV1 a b
theorem eqV2_eq {a b : Value} (h : eqV2 a b = true) : a = b := by
  unfold eqV2 at h
  split at h
  · rw [Array.toList_inj.1 (eqVs1_eq h)]
  · exact eqV1_eq h
def eqVs2 : List Value → List Value → Bool
  | [], [] => true
  | a :: l, b :: m => eqV2 a b && eqVs2 l m
  | _, _ => false
theorem eqVs2_eq : ∀ {l m : List Value}, eqVs2 l m = true → l = m
  | [], [], _ => rfl
  | a :: l, b :: m, h => by
    simp only [eqVs2, Bool.and_eq_true] at h
    rw [eqV2_eq h.1, eqVs2_eq h.2]
  | [], _ :: _, h => by simp [eqVs2] at h
  | _ :: _, [], h => by simp [eqVs2] at h
def eqV : Value → Value → Bool
  | .tuple a, .tuple b => eqVs2 a.toList b.toList
  | a, b => eqV2 a b
theorem eqV_eq {a b : Value} (h : eqV a b = true) : a = b := by
  unfold eqV at h
  split at h
  · rw [Array.toList_inj.1 (eqVs2_eq h)]
  · exact eqV2_eq h

/-- The first is the second, or the second is dead; a row that is read only stands for each row with its cells. -/
def eqO : SObj → SObj → Bool
  | _, .dead => true
  | .row cs ty g ro, .row cs' ty' g' ro' => eqVs1 cs cs' && (ro' || (Nat.beq ty ty' && (g == g') && (ro == ro')))
  | _, _ => false
theorem eqO_objR {P : Program} {ρ : Map} {W : World} {i : Nat} {o o' : SObj} (h : eqO o o' = true) (ho : objR P ρ W i o) : objR P ρ W i o' := by
  unfold eqO at h
  split at h
  · trivial
  · simp only [Bool.and_eq_true, Bool.or_eq_true] at h
    obtain ⟨h1, h2⟩ := h
    obtain rfl := eqVs1_eq h1
    obtain ⟨L, CS, ty2, fr, e1, e2, e3, e4⟩ := ho
    rcases h2 with rfl | h2
    · exact ⟨L, CS, ty2, fr, e1, e2, e3, fun h => by cases h⟩
    · simp only [Bool.and_eq_true, beq_iff_eq] at h2
      obtain ⟨⟨h3, rfl⟩, rfl⟩ := h2
      obtain rfl := Nat.eq_of_beq_eq_true h3
      exact ⟨L, CS, ty2, fr, e1, e2, e3, e4⟩
  · cases h
/-- The same (or the second is dead). -/
def sameO : SObj → SObj → Bool
  | _, .dead => true
  | .row cs ty g ro, .row cs' ty' g' ro' => eqVs1 cs cs' && Nat.beq ty ty' && (g == g') && (ro == ro')
  | _, _ => false
theorem sameO_eq {o o' : SObj} (h : sameO o o' = true) : o' = .dead ∨ o' = o := by
  unfold sameO at h
  split at h
  · exact .inl rfl
  · simp only [Bool.and_eq_true, beq_iff_eq] at h
    obtain ⟨⟨⟨h1, h2⟩, rfl⟩, rfl⟩ := h
    obtain rfl := eqVs1_eq h1
    obtain rfl := Nat.eq_of_beq_eq_true h2
    exact .inr rfl
  · cases h

/-! ### What lies below a number -/

def below1 (n : Nat) : Value → Bool
  | .pointer (some a) => decide (a.block < n)
  | .slice (some a) _ _ => decide (a.block < n)
  | .map (some i) => decide (i < n)
  | v => flat1 v
def below (n : Nat) : Value → Bool
  | .agg cs => cs.toList.all (below1 n)
  | v => below1 n v
theorem below1_rel {ρ : Map} {n : Nat} {v V : Value} (hb : below1 n v = true) (h : vrel ρ v V) : vrel (cutm ρ n) v V := by
  cases h with
  | flat hf => exact .flat hf
  | ptr hL =>
    simp only [below1, decide_eq_true_eq] at hb
    exact .ptr (by rw [cutm_lt hb]; exact hL)
  | slice hL hc =>
    simp only [below1, decide_eq_true_eq] at hb
    exact .slice (by rw [cutm_lt hb]; exact hL) hc
  | sliceU hL h1 h2 =>
    simp only [below1, decide_eq_true_eq] at hb
    exact .sliceU (by rw [cutm_lt hb]; exact hL) h1 h2
  | map hL =>
    simp only [below1, decide_eq_true_eq] at hb
    exact .map (by rw [cutm_lt hb]; exact hL)
  | func _ _ => simp [below1, flat1] at hb
  | iface _ => simp [below1, flat1] at hb
  | agg _ => simp [below1, flat1] at hb
  | tuple _ => simp [below1, flat1] at hb
theorem all2_below {ρ : Map} {n : Nat} {l m : List Value} (h : All2 (vrel ρ) l m) (hb : l.all (below1 n) = true) : All2 (vrel (cutm ρ n)) l m := by
  induction h with
  | nil => exact .nil
  | cons h _ ih =>
    simp only [List.all_cons, Bool.and_eq_true] at hb
    exact .cons (below1_rel hb.1 h) (ih hb.2)
theorem below_rel {ρ : Map} {n : Nat} {v V : Value} (hb : below n v = true) (h : vrel ρ v V) : vrel (cutm ρ n) v V := by
  cases h with
  | agg h => exact .agg (all2_below h hb)
  | flat hf => exact .flat hf
  | _ => first | (refine below1_rel hb ?_; first | (exact .ptr ‹_›) | (exact .slice ‹_› ‹_›) | (exact .sliceU ‹_› ‹_› ‹_›) | (exact .map ‹_›) | (exact .func ‹_› ‹_›) | (exact .iface ‹_›) | (exact .tuple ‹_›))
theorem alls_below {ρ : Map} {n : Nat} {l m : List Value} (h : All2 (vrel ρ) l m) (hb : l.all (below n) = true) : All2 (vrel (cutm ρ n)) l m := by
  induction h with
  | nil => exact .nil
  | cons h _ ih =>
    simp only [List.all_cons, Bool.and_eq_true] at hb
    exact .cons (below_rel hb.1 h) (ih hb.2)

/-! ### The table -/

/-- A string of these bytes. -/
def bs (l : List Nat) : ByteArray := ⟨(l.map UInt8.ofNat).toArray⟩

/-- A call: its arguments, the objects that it reads (only reads), its answer; the objects that it leaves (dead: not told); flat: it leaves none, and asks for no place in the heap. -/
structure Ent where
  f : FuncId
  args : List Value
  next : Nat
  need : List (Nat × SObj)
  v : Value
  outs : List SObj

noncomputable def layO (t : OTr) : List (Nat × SObj) → OTr
  | [] => t
  | (i, o) :: l => layO (t.set i o) l
noncomputable def Ent.hs (e : Ent) : SHeap := ⟨e.next, 0, layO .leaf e.need⟩
noncomputable def pushO (h : SHeap) : List SObj → SHeap
  | [] => h
  | o :: l => pushO (h.push o) l

theorem layO_get : ∀ (l : List (Nat × SObj)) (t : OTr) (i : Nat), (layO t l).get i = t.get i ∨ ∃ o, (i, o) ∈ l ∧ (layO t l).get i = o := by
  intro l
  induction l with
  | nil => intro t i; exact .inl rfl
  | cons x l ih =>
    obtain ⟨k, o⟩ := x
    intro t i
    simp only [layO]
    rcases ih (t.set k o) i with h | ⟨o', h1, h2⟩
    · rw [OTr.get_set] at h
      by_cases e : i = k
      · rw [if_pos e] at h
        exact .inr ⟨o, by rw [e]; simp, h⟩
      · rw [if_neg e] at h
        exact .inl h
    · exact .inr ⟨o', by simp [h1], h2⟩
theorem Ent.hs_get (e : Ent) (i : Nat) : e.hs.get i = .dead ∨ (i < e.next ∧ ∃ o, (i, o) ∈ e.need ∧ e.hs.get i = o) := by
  unfold SHeap.get Ent.hs
  simp only
  split
  · rename_i hi
    rcases layO_get e.need .leaf i with h | ⟨o, h1, h2⟩
    · exact .inl (h.trans rfl)
    · exact .inr ⟨hi, o, h1, h2⟩
  · exact .inl rfl
theorem pushO_next : ∀ (l : List SObj) (h : SHeap), (pushO h l).next = h.next + l.length ∧ (pushO h l).floor = h.floor := by
  intro l
  induction l with
  | nil => intro h; exact ⟨rfl, rfl⟩
  | cons o l ih =>
    intro h
    simp only [pushO]
    obtain ⟨h1, h2⟩ := ih (h.push o)
    refine ⟨by rw [h1]; simp [SHeap.push]; omega, by rw [h2]; rfl⟩
theorem pushO_get : ∀ (l : List SObj) (h : SHeap) (i : Nat), (pushO h l).get i = if i < h.next then h.get i else l.getD (i - h.next) .dead := by
  intro l
  induction l with
  | nil =>
    intro h i
    simp only [pushO]
    split
    · rfl
    · rw [get_ge (by omega)]; rfl
  | cons o l ih =>
    intro h i
    simp only [pushO]
    rw [ih]
    have hn : (h.push o).next = h.next + 1 := rfl
    rw [hn]
    by_cases h1 : i < h.next
    · rw [if_pos (by omega), if_pos h1, get_push_old h1]
    · rw [if_neg h1]
      by_cases h2 : i = h.next
      · subst h2
        rw [if_pos (by omega), get_push_new]
        simp
      · rw [if_neg (by omega)]
        have : i - h.next = (i - (h.next + 1)) + 1 := by omega
        rw [this]
        rfl

def roRow : SObj → Bool
  | .row _ _ _ ro => ro
  | _ => false
noncomputable def outsOK (h : SHeap) (i : Nat) : List SObj → Bool
  | [] => true
  | o :: l => sameO (h.get i) o && outsOK h (i + 1) l
theorem outsOK_get {h : SHeap} : ∀ {l : List SObj} {i k : Nat}, outsOK h i l = true → l.getD k .dead = .dead ∨ h.get (i + k) = l.getD k .dead := by
  intro l
  induction l with
  | nil => intro i k _; exact .inl (by simp)
  | cons o l ih =>
    intro i k hk
    simp only [outsOK, Bool.and_eq_true] at hk
    cases k with
    | zero =>
      rcases sameO_eq hk.1 with h | h
      · exact .inl (by simpa using h)
      · exact .inr (by simpa using h.symm)
    | succ k =>
      rcases ih (k := k) hk.2 with h | h
      · exact .inl (by simpa using h)
      · exact .inr (by rw [← Nat.add_assoc, Nat.add_right_comm]; simpa using h)
noncomputable def needOK (h : SHeap) : List (Nat × SObj) → Bool
  | [] => true
  | (i, o) :: l => eqO (h.get i) o && needOK h l
theorem needOK_get {h : SHeap} : ∀ {l : List (Nat × SObj)} {i : Nat} {o : SObj}, needOK h l = true → (i, o) ∈ l → eqO (h.get i) o = true := by
  intro l
  induction l with
  | nil => intro i o _ h; cases h
  | cons x l ih =>
    obtain ⟨k, o'⟩ := x
    intro i o hl hm
    simp only [needOK, Bool.and_eq_true] at hl
    rcases List.mem_cons.1 hm with h | h
    · cases h; exact hl.1
    · exact ih hl.2 h

/-- It was evaluated. -/
noncomputable def Ent.ok (call : SCall) (e : Ent) : Bool :=
  (e.need.all fun x => roRow x.2) && (match call e.f e.args e.hs with
    | some (v, h) => eqV v e.v && Nat.beq h.next (e.next + e.outs.length) && outsOK h e.next e.outs
    | none => false)
noncomputable def entS (e : Ent) : SCall := fun f args h =>
  match Nat.beq f e.f with
  | true => if eqVs2 args e.args && Nat.beq h.next e.next && needOK h e.need then some (e.v, pushO h e.outs) else none
  | false => none
/-- Its answer is flat: it may be called wherever what it reads is there. -/
noncomputable def Ent.okF (P : Program) (call : SCall) (e : Ent) : Bool :=
  (e.need.all fun x => roRow x.2 && (match x.2 with | .row cs _ _ _ => cs.all (below1 e.next) | _ => false)) && e.args.all (below e.next) && flat e.v && decide (P.globals.size ≤ e.next) && (match call e.f e.args e.hs with
    | some (v, h) => eqV v e.v
    | none => false)
noncomputable def entF (e : Ent) : SCall := fun f args h =>
  match Nat.beq f e.f with
  | true => if eqVs2 args e.args && Nat.ble e.next h.next && needOK h e.need then some (e.v, h) else none
  | false => none
noncomputable def orS (a b : SCall) : SCall := fun f args h => match a f args h with
  | some r => some r
  | none => b f args h
def noS : SCall := fun _ _ _ => none

theorem noS_ok {P : Program} : CallOK P noS ∧ SnxOK noS := ⟨fun _ _ _ _ _ h => by simp [noS] at h, fun _ _ _ _ _ h => by simp [noS] at h⟩
theorem orS_ok {P : Program} {a b : SCall} (ha : CallOK P a ∧ SnxOK a) (hb : CallOK P b ∧ SnxOK b) : CallOK P (orS a b) ∧ SnxOK (orS a b) := by
  refine ⟨fun f args h v h' hs => ?_, fun f args h v h' hs => ?_⟩
  · unfold orS at hs
    split at hs
    · rename_i r hr; cases hs; exact ha.1 _ _ _ _ _ hr
    · exact hb.1 _ _ _ _ _ hs
  · unfold orS at hs
    split at hs
    · rename_i r hr; cases hs; exact ha.2 _ _ _ _ _ hr
    · exact hb.2 _ _ _ _ _ hs

theorem entS_ok {P : Program} {call : SCall} (hc : CallOK P call) {e : Ent} (he : e.ok call = true) : CallOK P (entS e) ∧ SnxOK (entS e) := by
  have key : ∀ f args h v h', entS e f args h = some (v, h') → f = e.f ∧ args = e.args ∧ h.next = e.next ∧ needOK h e.need = true ∧ v = e.v ∧ h' = pushO h e.outs := by
    intro f args h v h' hs
    unfold entS at hs
    split at hs
    · rename_i hf
      split at hs
      · rename_i hh
        simp only [Bool.and_eq_true] at hh
        cases hs
        exact ⟨Nat.eq_of_beq_eq_true hf, eqVs2_eq hh.1.1, Nat.eq_of_beq_eq_true hh.1.2, hh.2, rfl, rfl⟩
      · cases hs
    · cases hs
  refine ⟨fun f args h v h' hs => ?_, fun f args h v h' hs => ?_⟩
  · obtain ⟨rfl, rfl, hnx, hneed, rfl, rfl⟩ := key f args h v h' hs
    unfold Ent.ok at he
    simp only [Bool.and_eq_true] at he
    obtain ⟨hro, he⟩ := he
    split at he
    · rename_i v0 h0 hcall
      simp only [Bool.and_eq_true] at he
      obtain ⟨⟨h1, h2⟩, h3⟩ := he
      obtain rfl := eqV_eq h1
      have h2 := Nat.eq_of_beq_eq_true h2
      obtain ⟨hfn, hc2⟩ := hc _ _ _ _ _ hcall
      refine ⟨hfn, fun ρ W ARGS hR hargs => ?_⟩
      have hnw : ∀ i, ¬ wr (e.hs.get i) := fun i hw => by
        rcases e.hs_get i with h4 | ⟨_, o, h4, h5⟩
        · rw [h4] at hw; exact hw
        · have := List.all_eq_true.1 hro _ h4
          rw [h5] at hw
          cases o <;> simp_all [roRow, wr]
      have hR0 : Rel P ρ e.hs W := by
        refine ⟨rfl, fun i hi => hR.dom i (by rw [hnx]; exact hi), hR.glob, fun i => ?_, fun i j L L' hw => absurd hw (hnw i)⟩
        rcases e.hs_get i with h4 | ⟨_, o, h4, h5⟩
        · rw [h4]; trivial
        · rw [h5]; exact eqO_objR (needOK_get hneed h4) (hR.obj i)
      refine (hc2 ρ W ARGS hR0 hargs).mono fun e' W' ⟨V, ρ', he', hN, hv⟩ => ⟨V, ρ', he', ?_, hv⟩
      have hg := hN.fr.gr hnw
      have hsn : e.hs.next = h.next := hnx.symm
      obtain ⟨p1, p2⟩ := pushO_next e.outs h
      have old : ∀ i, i < h.next → (pushO h e.outs).get i = h.get i := fun i hi => by rw [pushO_get, if_pos hi]
      have new : ∀ i, h.next ≤ i → (pushO h e.outs).get i = .dead ∨ (pushO h e.outs).get i = h0.get i := fun i hi => by
        rw [pushO_get, if_neg (by omega)]
        rcases outsOK_get (k := i - h.next) h3 with h4 | h4
        · exact .inl h4
        · right
          rw [← h4]
          congr 1
          omega
      have hown : ∀ i L, h.next ≤ i → live ((pushO h e.outs).get i) → ρ' i = some L → W.heap.size ≤ L.b := fun i L hi hl hL => by
        rcases new i hi with h4 | h4
        · rw [h4] at hl; exact hl.elim
        · rw [h4] at hl
          rcases hN.own i L (by rw [hsn]; exact hi) hl hL with h5 | ⟨j, _, hw, _⟩
          · exact h5
          · exact absurd hw (hnw j)
      have hold : ∀ i L, i < h.next → live (h.get i) → ρ' i = some L → L.b < W.heap.size := fun i L hi hl hL => by
        obtain ⟨L0, h4, h5⟩ := (hR.obj i).at_ hl
        rw [hN.old i (by rw [hsn]; exact hi), h4] at hL
        cases hL
        exact h5
      refine ⟨hN.ext, fun i hi => hN.old i (by rw [hsn]; exact hi), ⟨rfl, fun i hi => hN.rel.dom i (by rw [h2, ← hnx, ← p1]; exact hi), hN.rel.glob, fun i => ?_, fun i j L L' hw hl hne hL hL' => ?_⟩,
        ⟨hg.os, hg.tape, hg.output, hg.size, fun b hb _ => hg.blk b hb⟩, by rw [p1]; omega, p2, fun i hi _ => old i hi, fun i hi hw => by rw [old i hi] at hw; exact hw, fun i hi hw => by rw [old i hi] at hw; exact hw,
        fun i L hi hl hL => .inl (hown i L hi hl hL)⟩
      · rcases Nat.lt_or_ge i h.next with hi | hi
        · rw [old i hi]
          exact ((hR.obj i).grow hg).mono hN.ext (fun _ _ _ => rfl)
        · rcases new i hi with h4 | h4
          · rw [h4]; trivial
          · rw [h4]; exact hN.rel.obj i
      · rcases Nat.lt_or_ge i h.next with hi | hi <;> rcases Nat.lt_or_ge j h.next with hj | hj
        · rw [old i hi] at hw
          rw [old j hj] at hl
          rw [hN.old i (by rw [hsn]; exact hi)] at hL
          rw [hN.old j (by rw [hsn]; exact hj)] at hL'
          exact hR.inj i j L L' hw hl hne hL hL'
        · have e1 := hown j L' hj hl hL'
          rw [old i hi] at hw
          have e2 := hold i L hi hw.live hL
          omega
        · have e1 := hown i L hi hw.live hL
          rw [old j hj] at hl
          have e2 := hold j L' hj hl hL'
          omega
        · rcases new i hi with h4 | h4
          · rw [h4] at hw; exact hw.elim
          · rcases new j hj with h5 | h5
            · rw [h5] at hl; exact hl.elim
            · rw [h4] at hw; rw [h5] at hl
              exact hN.rel.inj i j L L' hw hl hne hL hL'
    · cases he
  · obtain ⟨rfl, rfl, hnx, hneed, rfl, rfl⟩ := key f args h v h' hs
    obtain ⟨p1, p2⟩ := pushO_next e.outs h
    exact ⟨by rw [p1]; omega, p2, fun i hi _ => by rw [pushO_get, if_pos hi]⟩

theorem entF_ok {P : Program} {call : SCall} (hc : CallOK P call) {e : Ent} (he : e.okF P call = true) : CallOK P (entF e) ∧ SnxOK (entF e) := by
  have key : ∀ f args h v h', entF e f args h = some (v, h') → f = e.f ∧ args = e.args ∧ e.next ≤ h.next ∧ needOK h e.need = true ∧ v = e.v ∧ h' = h := by
    intro f args h v h' hs
    unfold entF at hs
    split at hs
    · rename_i hf
      split at hs
      · rename_i hh
        simp only [Bool.and_eq_true] at hh
        cases hs
        exact ⟨Nat.eq_of_beq_eq_true hf, eqVs2_eq hh.1.1, Nat.le_of_ble_eq_true hh.1.2, hh.2, rfl, rfl⟩
      · cases hs
    · cases hs
  refine ⟨fun f args h v h' hs => ?_, fun f args h v h' hs => ?_⟩
  · obtain ⟨rfl, rfl, hnx, hneed, rfl, rfl⟩ := key f args h v h' hs
    unfold Ent.okF at he
    simp only [Bool.and_eq_true, decide_eq_true_eq] at he
    obtain ⟨⟨⟨⟨hro, hargB⟩, hflat⟩, hgl⟩, he⟩ := he
    split at he
    · rename_i v0 h0 hcall
      obtain rfl := eqV_eq he
      obtain ⟨hfn, hc2⟩ := hc _ _ _ _ _ hcall
      refine ⟨hfn, fun ρ W ARGS hR hargs => ?_⟩
      have hnw : ∀ i, ¬ wr (e.hs.get i) := fun i hw => by
        rcases e.hs_get i with h4 | ⟨_, o, h4, h5⟩
        · rw [h4] at hw; exact hw
        · have := List.all_eq_true.1 hro _ h4
          simp only [Bool.and_eq_true] at this
          have := this.1
          rw [h5] at hw
          cases o <;> simp_all [roRow, wr]
      have hR0 : Rel P (cutm ρ e.next) e.hs W := by
        refine ⟨rfl, fun i hi => ?_, fun g hg => ?_, fun i => ?_, fun i j L L' hw => absurd hw (hnw i)⟩
        · unfold cutm
          have : e.next ≤ i := hi
          rw [if_neg (by omega)]
        · rw [cutm_lt (by omega)]; exact hR.glob g hg
        · rcases e.hs_get i with h4 | ⟨hi, o, h4, h5⟩
          · rw [h4]; trivial
          · rw [h5]
            have h6 := eqO_objR (needOK_get hneed h4) (hR.obj i)
            have h7 := List.all_eq_true.1 hro _ h4
            simp only [Bool.and_eq_true] at h7
            cases o with
            | dead => trivial
            | map es => simp [roRow] at h7
            | row cs ty g ro =>
              obtain ⟨L, CS, ty', fr, e1, e2, e3, e4⟩ := h6
              refine ⟨L, CS, ty', fr, by rw [cutm_lt hi]; exact e1, e2, fun k v hv => ?_, e4⟩
              obtain ⟨V, hV, hr⟩ := e3 k v hv
              exact ⟨V, hV, below1_rel (List.all_eq_true.1 h7.2 v (List.mem_of_getElem? hv)) hr⟩
      refine (hc2 _ W ARGS hR0 (alls_below hargs hargB)).mono fun e' W' ⟨V, ρ', he', hN, hv⟩ => ⟨V, ρ, he', (Nx.refl hR).grow (hN.fr.gr hnw), ?_⟩
      rw [flat_eq hflat hv]
      exact vrel_flat hflat
    · cases he
  · obtain ⟨rfl, rfl, hnx, hneed, rfl, rfl⟩ := key f args h v h' hs
    exact .refl _
end Go.Sx
