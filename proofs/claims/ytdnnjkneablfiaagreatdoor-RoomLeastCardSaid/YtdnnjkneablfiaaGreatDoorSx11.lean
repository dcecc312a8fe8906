/- A region whose order is open: whatever the order, it comes to what the shadow reading comes to. -/
import Derived.Test.YtdnnjkneablfiaaGreatDoorSx10
namespace Go.Sx
open Go
set_option linter.unusedSimpArgs false
set_option linter.unusedVariables false

def cutm (ρ : Map) (m : Nat) : Map := fun id => if id < m then ρ id else none

theorem cutm_some {ρ : Map} {m id : Nat} {L : Loc} (h : cutm ρ m id = some L) : id < m ∧ ρ id = some L := by
  unfold cutm at h
  split at h
  · exact ⟨‹_›, h⟩
  · cases h
theorem cutm_lt {ρ : Map} {m id : Nat} (h : id < m) : cutm ρ m id = ρ id := by unfold cutm; rw [if_pos h]
theorem cutm_mono {ρ : Map} {m m' : Nat} (h : m ≤ m') : ∀ i L, cutm ρ m i = some L → cutm ρ m' i = some L := fun i L hi => by
  obtain ⟨h1, h2⟩ := cutm_some hi
  rw [cutm_lt (by omega)]
  exact h2
theorem cutm_le {ρ ρ' : Map} (hρ : ∀ i L, ρ i = some L → ρ' i = some L) (m : Nat) : ∀ i L, cutm ρ m i = some L → cutm ρ' m i = some L := fun i L hi => by
  obtain ⟨h1, h2⟩ := cutm_some hi
  rw [cutm_lt h1]
  exact hρ _ _ h2
theorem cutm_all {ρ : Map} {m : Nat} : ∀ i L, cutm ρ m i = some L → ρ i = some L := fun i L hi => (cutm_some hi).2

def deadH (m f : Nat) : SHeap := ⟨m, f, .leaf⟩
theorem get_deadH (m f i : Nat) : (deadH m f).get i = .dead := by
  unfold SHeap.get deadH
  simp only
  split <;> rfl
theorem len_deadH (m f : Nat) : (deadH m f).good := rfl

section
variable {P : Program} {ρ : Map} {W : World}

theorem rel_dead {m f : Nat} (hd : ∀ i, m ≤ i → ρ i = none) (hg : ∀ g, g < P.globals.size → ∃ L, ρ g = some L ∧ L.b = g ∧ L.d = 0) : Rel P ρ (deadH m f) W :=
  ⟨len_deadH m f, hd, hg, fun i => by rw [get_deadH]; trivial, fun i j L L' hw => by rw [get_deadH] at hw; exact hw.elim⟩

theorem get_oneH {m f id i : Nat} {o : SObj} (hid : id < m) : ((deadH m f).put id o).get i = if id = i then o else .dead := by
  by_cases e : id = i
  · subst e; rw [if_pos rfl, get_put_same (len_deadH m f) hid]
  · rw [if_neg e, get_put_ne (h := deadH m f) hid e, get_deadH]

theorem rel_one {m f id : Nat} {o : SObj} (hid : id < m) (ho : objR P ρ W id o) (hd : ∀ i, m ≤ i → ρ i = none) (hg : ∀ g, g < P.globals.size → ∃ L, ρ g = some L ∧ L.b = g ∧ L.d = 0) : Rel P ρ ((deadH m f).put id o) W :=
  ⟨len_put (len_deadH m f), hd, hg, fun i => by
    rw [get_oneH hid]
    split
    · rename_i e; subst e; exact ho
    · trivial, fun i j L L' hw hl hne _ _ => by
    rw [get_oneH hid] at hw hl
    split at hw
    · split at hl
      · omega
      · exact hl.elim
    · exact hw.elim⟩

/-- The world has grown; no block has turned. -/
structure Gr (W W' : World) : Prop where
  os : W'.os = W.os
  tape : W'.tape = W.tape
  output : W'.output = W.output
  size : W.heap.size ≤ W'.heap.size
  blk : ∀ b, b < W.heap.size → W'.heap[b]? = W.heap[b]?

theorem objR.grow {W' : World} {i : Nat} {o : SObj} (hg : Gr W W') (h : objR P ρ W i o) : objR P ρ W' i o :=
  h.mono (fun _ _ h => h) fun L hL hl => by
    obtain ⟨L2, e2, hlt⟩ := h.at_ hl
    rw [hL] at e2
    cases e2
    exact hg.blk _ hlt

theorem Rel.grow {h : SHeap} {W' : World} (hg : Gr W W') (hR : Rel P ρ h W) : Rel P ρ h W' := ⟨hR.len, hR.dom, hR.glob, fun i => (hR.obj i).grow hg, hR.inj⟩

theorem Nx.grow {ρ' : Map} {h h' : SHeap} {W' W'' : World} (hg : Gr W' W'') (hn : Nx P ρ h W ρ' h' W') : Nx P ρ h W ρ' h' W'' :=
  ⟨hn.ext, hn.old, hn.rel.grow hg, ⟨hg.os.trans hn.fr.os, hg.tape.trans hn.fr.tape, hg.output.trans hn.fr.output, Nat.le_trans hn.fr.size hg.size,
    fun b hb hno => (hg.blk b (Nat.lt_of_lt_of_le hb hn.fr.size)).trans (hn.fr.blk b hb hno)⟩, hn.nx, hn.floor, hn.keep, hn.was, hn.wasl, hn.own⟩

/-- A world beside a heap without anything to write has only grown. -/
theorem Fr.gr {h : SHeap} {W' : World} (hf : Fr ρ h W W') (hno : ∀ i, ¬ wr (h.get i)) : Gr W W' :=
  ⟨hf.os, hf.tape, hf.output, hf.size, fun b hb => hf.blk b hb fun i _ hw => absurd hw (hno i)⟩

theorem Rel.fl {h : SHeap} (hR : Rel P ρ h W) (f : Nat) : Rel P ρ (h.fl f) W := ⟨hR.len, hR.dom, hR.glob, hR.obj, hR.inj⟩

theorem Nx.unfl {ρ' : Map} {h h' : SHeap} {W' : World} {f : Nat} (hf : h.floor ≤ f) (hn : Nx P ρ (h.fl f) W ρ' h' W') : Nx P ρ h W ρ' (h'.fl h.floor) W' :=
  ⟨hn.ext, hn.old, hn.rel.fl _, ⟨hn.fr.os, hn.fr.tape, hn.fr.output, hn.fr.size, fun b hb hno => hn.fr.blk b hb fun i L hw hfi hL => hno i L hw (Nat.le_trans hf hfi) hL⟩, hn.nx, rfl,
    fun i hi hfi => hn.keep i hi (Nat.lt_of_lt_of_le hfi hf), hn.was, hn.wasl, fun i L hi hw hL => (hn.own i L hi hw hL).imp id fun ⟨j, L0, h1, h2, h3, h4⟩ => ⟨j, L0, h1, Nat.le_trans hf h2, h3, h4⟩⟩

/-- An object that lies apart is taken in. -/
theorem Nx.adopt {ρ' : Map} {h h' : SHeap} {W' : World} {o : SObj} {L : Loc} (hR : Rel P ρ h W) (hn : Nx P ρ h W (cutm ρ' h'.next) h' W') (hL : ρ' h'.next = some L) (ho : objR P (cutm ρ' (h'.next + 1)) W' h'.next o)
    (hb : W.heap.size ≤ L.b) (hdis : ∀ id L', id < h'.next → ρ' id = some L' → live (h'.get id) → L'.b ≠ L.b) : Nx P ρ h W (cutm ρ' (h'.next + 1)) (h'.push o) W' := by
  have hget : ∀ i, (h'.push o).get i = if i = h'.next then o else h'.get i := fun i => by
    by_cases e : i = h'.next
    · subst e; rw [if_pos rfl, get_push_new]
    · rw [if_neg e, get_push e]
  have hup : ∀ i L', cutm ρ' h'.next i = some L' → cutm ρ' (h'.next + 1) i = some L' := cutm_mono (Nat.le_succ _)
  refine ⟨fun i L' hi => hup _ _ (hn.ext i L' hi), fun i hi => ?_, ⟨len_push hn.rel.len, ?_, ?_, ?_, ?_⟩, hn.fr, Nat.le_trans hn.nx (by simp [SHeap.push]), hn.floor, ?_, ?_, ?_, ?_⟩
  · have h1 := hn.nx
    rw [← hn.old i hi, cutm_lt (by omega), cutm_lt (by omega)]
  · intro i hi
    have hi' : h'.next + 1 ≤ i := hi
    unfold cutm
    rw [if_neg (by omega)]
  · intro g hg
    obtain ⟨L', h1, h2, h3⟩ := hn.rel.glob g hg
    exact ⟨L', hup _ _ h1, h2, h3⟩
  · intro i
    rw [hget]
    split
    · rename_i e; subst e; exact ho
    · exact (hn.rel.obj i).mono hup fun _ _ _ => rfl
  · intro i j Li Lj hw hl hne hi hj
    rw [hget] at hw hl
    obtain ⟨hi1, hi2⟩ := cutm_some hi
    obtain ⟨hj1, hj2⟩ := cutm_some hj
    by_cases ei : i = h'.next
    · subst ei
      rw [if_neg (Ne.symm hne)] at hl
      rw [hL] at hi2
      cases hi2
      exact Ne.symm (hdis j Lj (by omega) hj2 hl)
    · rw [if_neg ei] at hw
      by_cases ej : j = h'.next
      · subst ej
        rw [hL] at hj2
        cases hj2
        exact hdis i Li (by omega) hi2 hw.live
      · rw [if_neg ej] at hl
        exact hn.rel.inj i j Li Lj hw hl hne (by rw [cutm_lt (by omega)]; exact hi2) (by rw [cutm_lt (by omega)]; exact hj2)
  · intro i hi hf
    have h1 := hn.nx
    rw [hget, if_neg (by omega)]
    exact hn.keep i hi hf
  · intro i hi hw
    have h1 := hn.nx
    rw [hget, if_neg (by omega)] at hw
    exact hn.was i hi hw
  · intro i hi hw
    have h1 := hn.nx
    rw [hget, if_neg (by omega)] at hw
    exact hn.wasl i hi hw
  · intro i L' hi hw hL'
    obtain ⟨h1, h2⟩ := cutm_some hL'
    rw [hget] at hw
    by_cases e : i = h'.next
    · subst e
      rw [hL] at h2
      cases h2
      exact .inl hb
    · rw [if_neg e] at hw
      exact hn.own i L' hi hw (by rw [cutm_lt (by omega)]; exact h2)
end

/-! ### The trace of one region -/

structure Run (P : Program) (call : SCall) (ops : Array Oper) (S : Nat → St) : Prop where
  sn : ∀ f args h v h', call f args h = some (v, h') → SNx h h'
  ok : CallOK P call
  dok : DOK ops
  step : ∀ k o, ops[k]? = some o → StepK P call ops (S 0).h.next k o (S k) (S (k + 1))

section
variable {P : Program} {call : SCall} {ops : Array Oper} {S : Nat → St}

def WW (ops : Array Oper) (S : Nat → St) (k : Nat) : Prop := ∃ o, ops[k]? = some o ∧ wantS ops (S k).T o = true ∧ (isAct o = true ∨ isStore o = true)
def NN (ops : Array Oper) (S : Nat → St) (k : Nat) : Prop := ∃ o, ops[k]? = some o ∧ wantS ops (S k).T o = true ∧ isNew o = true

theorem Run.snx1 (hr : Run P call ops S) {k : Nat} {o : Oper} (ho : ops[k]? = some o) : SNx (S k).h (S (k + 1)).h := by
  cases hr.step k o ho with
  | off _ e => rw [e]; exact .refl _
  | pure v _ _ _ _ e => rw [e]; exact .refl _
  | read v a _ _ _ _ e => rw [e]; exact .refl _
  | new v ob _ _ _ _ e => rw [e]; exact .push _ _
  | act v h1 f _ hc hf _ hs e => rw [e]; exact SNx.unfl hf (sop_act hr.sn hc hs)
  | store v a id ob _ _ _ _ h1 h2 _ _ e => rw [e]; exact .put h1 h2

theorem Run.snx (hr : Run P call ops S) {i j : Nat} (hij : i ≤ j) (hj : j ≤ ops.size) : SNx (S i).h (S j).h := by
  induction j with
  | zero => have : i = 0 := by omega
            subst this; exact .refl _
  | succ j ih =>
    rcases Nat.lt_or_ge j i with h1 | h1
    · have : i = j + 1 := by omega
      subst this; exact .refl _
    · have hlt : j < ops.size := by omega
      exact (ih h1 (by omega)).trans (hr.snx1 (Array.getElem?_eq_getElem hlt))

theorem Run.T1 (hr : Run P call ops S) {k : Nat} {o : Oper} (ho : ops[k]? = some o) : ∃ v, (S (k + 1)).T = (S k).T.put o.dst v := by
  cases hr.step k o ho with
  | off _ e => exact ⟨_, by rw [e]⟩
  | pure v _ _ _ _ e => exact ⟨_, by rw [e]⟩
  | read v a _ _ _ _ e => exact ⟨_, by rw [e]⟩
  | new v ob _ _ _ _ e => exact ⟨_, by rw [e]⟩
  | act v h1 f _ hc hf _ hs e => exact ⟨_, by rw [e]⟩
  | store v a id ob _ _ _ _ h1 h2 _ _ e => exact ⟨_, by rw [e]⟩

theorem Run.Tsame (hr : Run P call ops S) {t i j : Nat} (hij : i ≤ j) (hj : j ≤ ops.size) (hno : ∀ m o, i ≤ m → m < j → ops[m]? = some o → o.dst ≠ some t) : (S j).T.get t = (S i).T.get t := by
  induction j with
  | zero => have : i = 0 := by omega
            subst this; rfl
  | succ j ih =>
    rcases Nat.lt_or_ge j i with h1 | h1
    · have : i = j + 1 := by omega
      subst this; rfl
    · have hlt : j < ops.size := by omega
      have ho := Array.getElem?_eq_getElem hlt
      obtain ⟨v, hv⟩ := hr.T1 ho
      rw [hv, Tr.get_put, if_neg (hno j _ h1 (by omega) ho)]
      exact ih h1 (by omega) fun m o h2 h3 => hno m o h2 (by omega)

theorem Run.keep1 (hr : Run P call ops S) {k id : Nat} (hk : k < ops.size) (hid : id < (S k).h.next) (hw : ¬ WW ops S k) : (S (k + 1)).h.get id = (S k).h.get id := by
  have ho := Array.getElem?_eq_getElem hk
  cases hr.step k _ ho with
  | off _ e => rw [e]
  | pure v _ _ _ _ e => rw [e]
  | read v a _ _ _ _ e => rw [e]
  | new v ob _ _ _ _ e => rw [e]; exact get_push_old hid
  | act v h1 f hwant hc _ _ _ _ => exact absurd ⟨_, ho, hwant, .inl (by simp [isAct, hc])⟩ hw
  | store v a id' ob hwant hc _ _ _ _ _ _ _ => exact absurd ⟨_, ho, hwant, .inr (by simp [isStore, hc])⟩ hw

theorem Run.same (hr : Run P call ops S) {i j id : Nat} (hij : i ≤ j) (hj : j ≤ ops.size) (hid : id < (S i).h.next) (hw : ∀ w, i ≤ w → w < j → WW ops S w → (S (w + 1)).h.get id = (S w).h.get id) : (S j).h.get id = (S i).h.get id := by
  induction j with
  | zero => have : i = 0 := by omega
            subst this; rfl
  | succ j ih =>
    rcases Nat.lt_or_ge j i with h1 | h1
    · have : i = j + 1 := by omega
      subst this; rfl
    · rw [← ih h1 (by omega) fun w h2 h3 => hw w h2 (by omega)]
      by_cases h2 : WW ops S j
      · exact hw j h1 (by omega) h2
      · exact hr.keep1 (by omega) (Nat.lt_of_lt_of_le hid (hr.snx h1 (by omega)).nx) h2

/-- A number of a new object. -/
theorem Run.new1 (hr : Run P call ops S) {k : Nat} (hn : NN ops S k) : k < ops.size ∧ (S (k + 1)).h.next = (S k).h.next + 1 ∧ ∃ ob, wr ob ∧ (S (k + 1)).h = (S k).h.push ob ∧ (S (k + 1)).h.get (S k).h.next = ob := by
  obtain ⟨o, ho, hw, hc⟩ := hn
  have hk : k < ops.size := (Array.getElem?_eq_some_iff.1 ho).1
  refine ⟨hk, ?_⟩
  cases hr.step k o ho with
  | off h _ => rw [hw] at h; cases h
  | pure v _ hc' _ _ e => simp [isNew, hc'] at hc
  | read v a _ hc' _ _ e => simp [isNew, hc'] at hc
  | new v ob _ _ hwr _ e => rw [e]; exact ⟨rfl, ob, hwr, rfl, get_push_new⟩
  | act v h1 f _ hc' _ _ _ e => simp [isNew, hc'] at hc
  | store v a id ob _ hc' _ _ h1 h2 _ _ e => simp [isNew, hc'] at hc

theorem Run.new_lt (hr : Run P call ops S) {i k : Nat} (hn : NN ops S i) (hik : i < k) (hk : k ≤ ops.size) : (S i).h.next < (S k).h.next := by
  obtain ⟨h1, h2, _⟩ := hr.new1 hn
  have := (hr.snx (i := i + 1) (j := k) (by omega) hk).nx
  omega

theorem Run.new_ne (hr : Run P call ops S) {i k : Nat} (hi : NN ops S i) (hk : NN ops S k) (hne : i ≠ k) : (S i).h.next ≠ (S k).h.next := by
  have h1 := (hr.new1 hi).1
  have h2 := (hr.new1 hk).1
  rcases Nat.lt_or_gt_of_ne hne with h | h
  · have := hr.new_lt hi h (by omega); omega
  · have := hr.new_lt hk h (by omega); omega
end

/-- Where a run of the region stands. -/
structure Inv (P : Program) (ops : Array Oper) (S : Nat → St) (n : Nat) (ρ0 : Map) (W0 : World) (D : List Deferred) (listed : Array Bool) (A : Act) (W : World) (ρ : Map) (p : Nat) : Prop where
  lsz : listed.size = ops.size
  cl : Closed ops listed
  ple : p ≤ ops.size
  pw : ∀ i, i < p → (WW ops S i ∨ NN ops S i) → listed.getD i false = true
  ph : ∀ i, p ≤ i → WW ops S i → ¬ listed.getD i false = true
  nx : Nx P ρ0 (S 0).h W0 (cutm ρ (S p).h.next) (S p).h W
  dom : ∀ id L, (S p).h.next ≤ id → ρ id = some L → ∃ i, p ≤ i ∧ NN ops S i ∧ listed.getD i false = true ∧ id = (S i).h.next
  ext : ∀ i, p ≤ i → NN ops S i → listed.getD i false = true → ∃ Lc, ρ (S i).h.next = some Lc ∧ objR P (cutm ρ ((S i).h.next + 1)) W (S i).h.next ((S (i + 1)).h.get (S i).h.next) ∧ W0.heap.size ≤ Lc.b ∧ Lc.b < W.heap.size
  dis : ∀ i, p ≤ i → NN ops S i → listed.getD i false = true → ∀ Lc, ρ (S i).h.next = some Lc → ∀ id L', id ≠ (S i).h.next → ρ id = some L' → (id < (S p).h.next → live ((S p).h.get id)) → L'.b ≠ Lc.b
  pend : ∀ j, j < p → ¬ listed.getD j false = true → ∀ o a id, ops[j]? = some o → wantS ops (S j).T o = true → clsOf o.op = .read a → idOf (ev (S j).T a) = some id → objR P (cutm ρ (S j).h.next) W id ((S j).h.get id)
  tm : ∀ t, ∃ m, m ≤ ops.size ∧ (m = 0 ∨ ∃ o, ops[m - 1]? = some o ∧ o.dst = some t ∧ listed.getD (m - 1) false = true) ∧ (∀ i o, ops[i]? = some o → o.dst = some t → (listed.getD i false = true ↔ i < m)) ∧
      vrel (cutm ρ (S m).h.next) ((S m).T.get t) (A.tmps.getD t undef)
  sz : A.tmps.size = n
  df : A.defers = D

section
variable {P : Program} {call : SCall} {ops : Array Oper} {S : Nat → St} {n : Nat} {ρ0 : Map} {W0 : World} {D : List Deferred} {listed : Array Bool} {A : Act} {W : World} {ρ : Map} {p : Nat}

theorem getD_true_iff {listed : Array Bool} {j i : Nat} (hj : j < listed.size) : (listed.setIfInBounds j true).getD i false = true ↔ (i = j ∨ listed.getD i false = true) := by
  by_cases e : j = i
  · subst e
    simp [hj]
  · rw [getD_set_ne false e]
    constructor
    · exact .inr
    · rintro (h | h)
      · exact absurd h.symm e
      · exact h

/-- Writers of a slot that an operation at hand names: those ahead have run, those behind have not. -/
theorem Inv.writers (hr : Run P call ops S) (hI : Inv P ops S n ρ0 W0 D listed A W ρ p) {j : Nat} (hj : j ∈ Region.ready .any ops listed) {oj : Oper} (hoj : ops[j]? = some oj) {t : Tmp} (ht : t ∈ oj.looksAt ops ∨ oj.dst = some t)
    {i : Nat} {oi : Oper} (hoi : ops[i]? = some oi) (hd : oi.dst = some t) (hne : i ≠ j) : (listed.getD i false = true ↔ i < j) := by
  have hnl : ¬ listed.getD j false = true := by
    have := (mem_ready.1 hj).1
    intro h
    have : listed.getD j false = false := by
      rcases Nat.lt_or_ge j listed.size with hlt | hge
      · simp [hlt] at this ⊢; exact this
      · simp [Array.getElem?_eq_none hge] at this
    rw [this] at h
    cases h
  rcases hr.dok.s6 j i oj oi t hoj hoi hne hd ht with hb | hb
  · have h1 := ready_bit hI.cl hj hb
    have h2 := bit_lt hr.dok j i hb
    exact ⟨fun _ => h2, fun _ => h1⟩
  · have h2 := bit_lt hr.dok i j hb
    constructor
    · intro hl; exact absurd (hI.cl.bit i j hl hb) hnl
    · intro hlt; omega

theorem Inv.unlisted (hI : Inv P ops S n ρ0 W0 D listed A W ρ p) {j : Nat} (hj : j ∈ Region.ready .any ops listed) : ¬ listed.getD j false = true ∧ j < ops.size := by
  obtain ⟨h1, o, ho, _⟩ := mem_ready.1 hj
  have hlt : j < ops.size := (Array.getElem?_eq_some_iff.1 ho).1
  refine ⟨fun h => ?_, hlt⟩
  have hl : j < listed.size := by rw [hI.lsz]; exact hlt
  simp [hl] at h1 h
  rw [h1] at h
  cases h

/-- The slots that it reads hold what they hold in the text's order. -/
theorem Inv.slot (hr : Run P call ops S) (hI : Inv P ops S n ρ0 W0 D listed A W ρ p) {j : Nat} (hj : j ∈ Region.ready .any ops listed) {oj : Oper} (hoj : ops[j]? = some oj) {t : Tmp} (ht : t ∈ oj.looksAt ops) :
    vrel (cutm ρ (S j).h.next) ((S j).T.get t) (A.tmps.getD t undef) := by
  obtain ⟨hnl, hlt⟩ := hI.unlisted hj
  obtain ⟨m, hm, hm0, hmw, hv⟩ := hI.tm t
  have hmj : m ≤ j := by
    rcases hm0 with rfl | ⟨o, ho, hd, hl⟩
    · omega
    · have hne : m - 1 ≠ j := fun e => hnl (e ▸ hl)
      have := (hI.writers hr hj hoj (.inl ht) ho hd hne).1 hl
      omega
  rw [hr.Tsame hmj (by omega) fun i o h1 h2 ho hd => ?_]
  · exact hv.mono (cutm_mono (hr.snx hmj (by omega)).nx)
  · have hl := (hI.writers hr hj hoj (.inl ht) ho hd (by omega)).2 h2
    have := (hmw i o ho hd).1 hl
    omega

theorem Inv.glob (hr : Run P call ops S) (hR0 : Rel P ρ0 (S 0).h W0) (hI : Inv P ops S n ρ0 W0 D listed A W ρ p) {j : Nat} (hj : j ≤ ops.size) : ∀ g, g < P.globals.size → ∃ L, cutm ρ (S j).h.next g = some L ∧ L.b = g ∧ L.d = 0 := by
  intro g hg
  obtain ⟨L, h1, h2, h3⟩ := hI.nx.rel.glob g hg
  obtain ⟨L0, h4, _, _⟩ := hR0.glob g hg
  have hlt := hR0.lt h4
  have := (hr.snx (i := 0) (j := j) (by omega) hj).nx
  exact ⟨L, by rw [cutm_lt (by omega)]; exact (cutm_some h1).2, h2, h3⟩

theorem Inv.operand (hr : Run P call ops S) (hR0 : Rel P ρ0 (S 0).h W0) (hI : Inv P ops S n ρ0 W0 D listed A W ρ p) {j : Nat} (hj : j ∈ Region.ready .any ops listed) {oj : Oper} (hoj : ops[j]? = some oj) (hok : operOK P n oj = true) :
    ∀ x ∈ oj.op.operands, vrel (cutm ρ (S j).h.next) (ev (S j).T x) (A.eval x) := by
  intro x hx
  have hlt := (hI.unlisted hj).2
  simp only [operOK, Bool.and_eq_true] at hok
  have hxo : opndOK P x = true := List.all_eq_true.1 hok.1 x (by simpa using hx)
  cases x with
  | tmp t =>
    refine hI.slot hr hj hoj ?_
    unfold Oper.looksAt
    rw [List.mem_append]
    left
    rw [List.mem_filterMap]
    exact ⟨.tmp t, by simpa using hx, rfl⟩
  | const v => exact vrel_flat hxo
  | global g =>
    simp only [opndOK, decide_eq_true_eq] at hxo
    obtain ⟨L, hL, hb, hd⟩ := hI.glob hr hR0 (j := j) (by omega) g hxo
    have := vrel.ptr (ρ := cutm ρ (S j).h.next) (id := g) (off := 0) hL
    simp only [hb, hd, Nat.zero_add] at this
    exact this
  | func f => exact .func .nil .nil

theorem want_rel {T : Tr} {o : Oper} {ρ : Map} (h : ∀ t, t ∈ o.looksAt ops → vrel ρ (T.get t) (A.tmps.getD t undef)) : Region.wanted o (yielded ops A.tmps) = wantS ops T o := by
  unfold Region.wanted wantS
  cases hg : o.guard with
  | none => rfl
  | some jw =>
    obtain ⟨j, w⟩ := jw
    simp only
    unfold yielded
    cases hd : (ops[j]?).bind (·.dst) with
    | none => rfl
    | some d =>
      have hin : d ∈ o.looksAt ops := by
        unfold Oper.looksAt
        rw [List.mem_append]
        right
        simp [hg, hd]
      have hv := h d hin
      simp only [Option.bind_some]
      rw [Array.getD_eq_getD_getElem?] at hv
      cases hA : A.tmps[d]? with
      | none =>
        rw [hA] at hv
        simp only [Option.getD_none] at hv
        cases hT : T.get d with
        | bool b => rw [hT] at hv; have := vrel_bool hv; simp [undef] at this
        | _ => rfl
      | some V =>
        rw [hA] at hv
        simp only [Option.getD_some] at hv
        cases hT : T.get d with
        | bool b => rw [hT] at hv; have := vrel_bool hv; subst this; rfl
        | _ =>
          rw [hT] at hv
          cases V with
          | bool b => cases hv
          | _ => rfl
end
end Go.Sx
