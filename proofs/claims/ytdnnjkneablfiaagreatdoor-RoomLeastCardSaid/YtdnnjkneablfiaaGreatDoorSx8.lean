/- Operations, regions in the order of the text: the shadow reading is the machine's. -/
import Derived.Test.YtdnnjkneablfiaaGreatDoorSx7
namespace Go.Sx
open Go
set_option linter.unusedSimpArgs false
set_option linter.unusedVariables false

def opndOK (P : Program) : Operand → Bool
  | .const v => flat v
  | .global g => decide (g < P.globals.size)
  | _ => true

def dstOK (n : Nat) : Option Tmp → Bool
  | some d => decide (d < n)
  | none => true

def operOK (P : Program) (n : Nat) (o : Oper) : Bool := o.op.operands.toList.all (opndOK P) && dstOK n o.dst

def trel (ρ : Map) (T : Tr) (A : Act) : Prop := ∀ t, vrel ρ (T.get t) (A.tmps.getD t undef)

/-- What a call of the reading promises. -/
def CallOK (P : Program) (call : SCall) : Prop := ∀ f args h v h', call f args h = some (v, h') →
  (∃ fn c, P.funcs[f]? = some fn ∧ fn.body = some c ∧ (fn.name == "runtime.NumGoroutine") = false) ∧
  ∀ ρ W (ARGS : Array Value), Rel P ρ h W → All2 (vrel ρ) args ARGS.toList → Calls P f ARGS W (fun e W' => ∃ V ρ', e = .returned V ∧ Nx P ρ h W ρ' h' W' ∧ vrel ρ' v V)

section
variable {P : Program} {ρ : Map} {h : SHeap} {W : World} {T : Tr} {A : Act}

theorem ev_rel (hR : Rel P ρ h W) (hT : trel ρ T A) {x : Operand} (hx : opndOK P x = true) : vrel ρ (ev T x) (A.eval x) := by
  cases x with
  | tmp t => exact hT t
  | const v => exact vrel_flat hx
  | global g =>
    simp only [opndOK, decide_eq_true_eq] at hx
    obtain ⟨L, hL, hb, hd⟩ := hR.glob g hx
    have := vrel.ptr (ρ := ρ) (id := g) (off := 0) hL
    simp only [hb, hd, Nat.zero_add] at this
    exact this
  | func f => exact .func .nil .nil

theorem trel.mono {ρ' : Map} (hT : trel ρ T A) (hx : ∀ i L, ρ i = some L → ρ' i = some L) : trel ρ' T A := fun t => (hT t).mono hx

theorem Tr.get_put (T : Tr) (dst : Option Tmp) (v : Value) (t : Nat) : (T.put dst v).get t = if dst = some t then v else T.get t := by
  cases dst with
  | none => simp [Tr.put]
  | some d =>
    simp only [Tr.put, Tr.get_set]
    by_cases e : t = d
    · simp [e]
    · rw [if_neg e, if_neg (by simpa using Ne.symm e)]

theorem eval_put (A : Act) (dst : Option Tmp) (V : Value) (n : Nat) (hn : A.tmps.size = n) (hd : dstOK n dst = true) (t : Nat) : (A.put dst V).tmps.getD t undef = if dst = some t then V else A.tmps.getD t undef := by
  cases dst with
  | none => simp [Act.put]
  | some d =>
    simp only [dstOK, decide_eq_true_eq] at hd
    simp only [Act.put, Array.getD_eq_getD_getElem?, Array.getElem?_setIfInBounds]
    by_cases e : d = t
    · subst e
      simp [hn, hd]
    · rw [if_neg e, if_neg (by simpa using e)]

theorem size_put (A : Act) (dst : Option Tmp) (V : Value) : (A.put dst V).tmps.size = A.tmps.size := by
  cases dst <;> simp [Act.put]

theorem defers_put (A : Act) (dst : Option Tmp) (V : Value) : (A.put dst V).defers = A.defers := by
  cases dst <;> rfl

theorem trel.put {n : Nat} (hT : trel ρ T A) (hn : A.tmps.size = n) {dst : Option Tmp} (hd : dstOK n dst = true) {v V : Value} (hv : vrel ρ v V) : trel ρ (T.put dst v) (A.put dst V) := by
  intro t
  rw [Tr.get_put, eval_put A dst V n hn hd]
  split
  · exact hv
  · exact hT t

theorem wp_value {o : Oper} {K : Act → World → Prop} {Q : Exit → Act → World → Prop} {V : Value} {W' : World} (hr : (execOp A.eval o).run P W = .ok (.value V) W') (hk : K (A.put o.dst V) W') : o.wp P A W K Q := by
  unfold Oper.wp; rw [hr]; exact hk
theorem wp_none {o : Oper} {K : Act → World → Prop} {Q : Exit → Act → World → Prop} {W' : World} (hr : (execOp A.eval o).run P W = .ok .skip W') (hk : K (A.put o.dst undef) W') : o.wp P A W K Q := by
  unfold Oper.wp; rw [hr]; exact hk

theorem evs_rel {l : Array Operand} (hl : ∀ x ∈ l, vrel ρ (ev T x) (A.eval x)) : All2 (vrel ρ) (evs T l) (l.map A.eval).toList := by
  unfold evs
  rw [Array.toList_map]
  have hl' : ∀ x ∈ l.toList, vrel ρ (ev T x) (A.eval x) := fun x hx => hl x (by simpa using hx)
  generalize l.toList = l at hl'
  induction l with
  | nil => exact .nil
  | cons x l ih => exact .cons (hl' x (by simp)) (ih fun y hy => hl' y (by simp [hy]))

theorem parts_rel {l : Array (Nat × Operand)} (hl : ∀ i x, (i, x) ∈ l → vrel ρ (ev T x) (A.eval x)) :
    All2 (fun a b => a.1 = b.1 ∧ vrel ρ a.2 b.2) (l.toList.map fun (i, x) => (i, ev T x)) (l.map fun (i, x) => (i, A.eval x)).toList := by
  rw [Array.toList_map]
  have hl' : ∀ i x, (i, x) ∈ l.toList → vrel ρ (ev T x) (A.eval x) := fun i x hx => hl i x (by simpa using hx)
  generalize l.toList = l at hl'
  induction l with
  | nil => exact .nil
  | cons x l ih =>
    obtain ⟨i, x⟩ := x
    exact .cons ⟨rfl, hl' i x (by simp)⟩ (ih fun j y hy => hl' j y (by simp [hy]))

theorem opt_rel {x : Option Operand} (hx : ∀ y, x = some y → vrel ρ (ev T y) (A.eval y)) : All2 (vrel ρ) (x.map (ev T)).toList (x.map A.eval).toList := by
  cases x with
  | none => exact .nil
  | some x => exact .cons (hx x rfl) .nil

set_option maxHeartbeats 1000000 in
theorem sop_ok {call : SCall} (hcall : CallOK P call) (hR : Rel P ρ h W) {o : Oper} (ho : ∀ x ∈ o.op.operands, vrel ρ (ev T x) (A.eval x)) {v : Value} {h' : SHeap} (hs : sop P call T h o.op = some (v, h'))
    {K : Act → World → Prop} {Q : Exit → Act → World → Prop} (hK : ∀ V W' ρ', Nx P ρ h W ρ' h' W' → vrel ρ' v V → K (A.put o.dst V) W') : o.wp P A W K Q := by
  cases hop : o.op with
  | move x =>
    rw [hop] at hs ho
    simp [sop] at hs
    obtain ⟨rfl, rfl⟩ := hs
    simp [Op.operands] at ho
    exact wp_value (by simp only [execOp, hop]; rfl) (hK _ _ ρ (Nx.refl hR) ho)
  | assign x =>
    rw [hop] at hs ho
    simp [sop] at hs
    obtain ⟨rfl, rfl⟩ := hs
    simp [Op.operands] at ho
    exact wp_value (by simp only [execOp, hop]; rfl) (hK _ _ ρ (Nx.refl hR) ho)
  | pick c a b =>
    rw [hop] at hs ho
    simp [Op.operands] at ho
    simp only [sop] at hs
    split at hs
    · rename_i t hc
      simp at hs
      obtain ⟨rfl, rfl⟩ := hs
      have h1 := ho.1
      rw [hc] at h1
      have h2 := vrel_bool h1
      refine wp_value (V := if t then A.eval a else A.eval b) (by simp [execOp, hop, h2, asBool]) (hK _ _ ρ (Nx.refl hR) ?_)
      cases t
      · exact ho.2.2
      · exact ho.2.1
    · cases hs
  | alloc e =>
    rw [hop] at hs ho
    simp only [sop] at hs
    split at hs
    · rename_i z hz
      split at hs
      · rename_i hf
        simp at hs
        obtain ⟨rfl, rfl⟩ := hs
        have hsz : ∃ s, szOf P e = some s := by
          unfold zeroOf at hz
          unfold szOf
          cases hq : P.info? e with
          | none => simp [hq] at hz
          | some i => exact ⟨_, rfl⟩
        obtain ⟨s, hs⟩ := hsz
        refine wp_value (V := .pointer (some ⟨W.heap.size, 0, none⟩)) (W' := W.alloc (.cells z.cells e)) (by simp [execOp, hop, Instr.alloc, run_zeroValue hz, newVar, newRow]) (hK _ _ _ (nx_row hR rfl rfl rfl rfl hs (all2_hc (zero_rel hf))) ?_)
        have := vrel.ptr (ρ := upd ρ h.next ⟨W.heap.size, 0, z.cells.size, s⟩) (id := h.next) (off := 0) (upd_same _ _ _)
        simpa using this
      · cases hs
    · cases hs
  | box e x =>
    rw [hop] at hs ho
    simp [Op.operands] at ho
    simp only [sop] at hs
    split at hs
    · rename_i hone
      split at hs
      · rename_i s hsz
        simp at hs
        obtain ⟨rfl, rfl⟩ := hs
        have hx := ho
        refine wp_value (V := .pointer (some ⟨W.heap.size, 0, none⟩)) (W' := W.alloc (.cells (A.eval x).cells e)) (by simp [execOp, hop, Instr.box, newVar, newRow]) (hK _ _ _ (nx_row hR rfl rfl rfl rfl hsz (all2_hc (vrel_cells hx))) ?_)
        have := vrel.ptr (ρ := upd ρ h.next ⟨W.heap.size, 0, (A.eval x).cells.size, s⟩) (id := h.next) (off := 0) (upd_same _ _ _)
        simpa using this
      · cases hs
    · cases hs
  | build t parts =>
    rw [hop] at hs ho
    simp [Op.operands] at ho
    simp only [sop, Option.map_eq_some_iff, Prod.mk.injEq] at hs
    obtain ⟨u, hu, rfl, rfl⟩ := hs
    obtain ⟨V, hV, hr⟩ := buildS_ok (W := W) (parts_rel (A := A) fun i x h => ho x i h) hu
    exact wp_value (by simp [execOp, hop, hV]) (hK _ _ ρ (Nx.refl hR) hr)
  | buildSlice t len parts =>
    rw [hop] at hs ho
    simp [Op.operands] at ho
    simp only [sop] at hs
    obtain ⟨V, W', ρ', hV, hN, hr⟩ := buildSliceS_ok hR (parts_rel (A := A) fun i x h => ho x i h) hs
    exact wp_value (by simp [execOp, hop, hV]) (hK _ _ ρ' hN hr)
  | load t a =>
    rw [hop] at hs ho
    simp [Op.operands] at ho
    simp only [sop, Option.map_eq_some_iff, Prod.mk.injEq] at hs
    obtain ⟨u, hu, rfl, rfl⟩ := hs
    obtain ⟨V, hV, hr⟩ := loadS_ok hR ho hu
    exact wp_value (by simp [execOp, hop, hV]) (hK _ _ ρ (Nx.refl hR) hr)
  | store t a x =>
    rw [hop] at hs ho
    simp [Op.operands] at ho
    simp only [sop, Option.map_eq_some_iff, Prod.mk.injEq] at hs
    obtain ⟨u, hu, rfl, rfl⟩ := hs
    obtain ⟨W', hW, hN⟩ := storeS_ok hR ho.1 ho.2 hu
    exact wp_none (by simp [execOp, hop, hW]) (hK _ _ ρ hN vrel_undef)
  | nilCheck x =>
    rw [hop] at hs ho
    simp [Op.operands] at ho
    simp only [sop] at hs
    have hx := ho
    split at hs
    · rename_i a ha
      simp at hs
      obtain ⟨rfl, rfl⟩ := hs
      rw [ha] at hx
      obtain ⟨L, hL, _, hV⟩ := vrel_ptr' hx
      rw [hV] at hx
      exact wp_value (by simp [execOp, hop, hV]) (hK _ _ ρ (Nx.refl hR) hx)
    · rename_i k first captured ha
      simp at hs
      obtain ⟨rfl, rfl⟩ := hs
      rw [ha] at hx
      obtain ⟨f', c', hV, _, _⟩ := vrel_func hx
      rw [hV] at hx
      exact wp_value (by simp [execOp, hop, hV]) (hK _ _ ρ (Nx.refl hR) hx)
    · cases hs
  | binOp op t x y yt =>
    rw [hop] at hs ho
    simp [Op.operands] at ho
    simp only [sop, Option.map_eq_some_iff, Prod.mk.injEq] at hs
    obtain ⟨u, hu, rfl, rfl⟩ := hs
    obtain ⟨V, hV, hr⟩ := binS_ok (W := W) ho.1 ho.2 hu
    refine wp_value (V := V) (W' := W) ?_ (hK _ _ ρ (Nx.refl hR) hr)
    simp only [execOp, hop]
    rw [Sem.run_bind, hV]
    rfl
  | unOp op t x =>
    rw [hop] at hs ho
    simp [Op.operands] at ho
    simp only [sop] at hs
    split at hs
    · rename_i hf
      split at hs
      · rename_i u hu
        split at hs
        · rename_i hfu
          simp at hs
          obtain ⟨rfl, rfl⟩ := hs
          have hx := flat_eq hf ho
          exact wp_value (V := u) (by simp [execOp, hop, hx, run_pureRun hu]) (hK _ _ ρ (Nx.refl hR) (vrel_flat hfu))
        · cases hs
      · cases hs
    · cases hs
  | convert src dst x =>
    rw [hop] at hs ho
    simp [Op.operands] at ho
    simp only [sop, Option.map_eq_some_iff, Prod.mk.injEq] at hs
    obtain ⟨u, hu, rfl, rfl⟩ := hs
    obtain ⟨V, hV, hr⟩ := convS_ok hR ho hu
    exact wp_value (by simp [execOp, hop, hV]) (hK _ _ ρ (Nx.refl hR) hr)
  | makeFunc fn first captured =>
    rw [hop] at hs ho
    simp only [Op.operands, Array.mem_append] at ho
    simp only [sop, Option.some.injEq, Prod.mk.injEq] at hs
    obtain ⟨rfl, rfl⟩ := hs
    refine wp_value (V := .func fn (first.map A.eval) (captured.map A.eval)) (by simp [execOp, hop, Instr.makeFunc]) (hK _ _ ρ (Nx.refl hR) (.func ?_ ?_))
    · rw [Array.toList_map]; exact evs_rel fun x hx => ho x (.inl hx)
    · rw [Array.toList_map]; exact evs_rel fun x hx => ho x (.inr hx)
  | makeMap t r =>
    rw [hop] at hs ho
    cases r with
    | some _ => simp [sop] at hs
    | none =>
      simp only [sop, Option.some.injEq, Prod.mk.injEq] at hs
      obtain ⟨rfl, rfl⟩ := hs
      refine wp_value (V := .map (some W.heap.size)) (W' := W.alloc (.map #[] 0)) (by simp [execOp, hop, Instr.makeMap]) (hK _ _ (upd ρ h.next ⟨W.heap.size, 0, 0, 0⟩) (nx_push hR rfl rfl rfl rfl rfl ?_) ?_)
      · exact ⟨_, #[], 0, upd_same _ _ _, heap_alloc_new W _, .nil⟩
      · have := vrel.map (ρ := upd ρ h.next ⟨W.heap.size, 0, 0, 0⟩) (id := h.next) (upd_same _ _ _)
        exact this
  | makeSlice t l c =>
    rw [hop] at hs ho
    simp [Op.operands] at ho
    simp only [sop] at hs
    obtain ⟨V, W', ρ', hV, hN, hr⟩ := makeSliceS_ok hR ho.1 ho.2 hs
    exact wp_value (by simp [execOp, hop, hV]) (hK _ _ ρ' hN hr)
  | slice t x lo hi mx =>
    rw [hop] at hs ho
    simp only [sop, Option.map_eq_some_iff, Prod.mk.injEq] at hs
    obtain ⟨u, hu, rfl, rfl⟩ := hs
    obtain ⟨V, hV, hr⟩ := sliceS_ok hR (ho x (by simp [Op.operands])) (opt_rel (A := A) fun y hy => ho y (by simp [Op.operands, hy])) (opt_rel (A := A) fun y hy => ho y (by simp [Op.operands, hy])) (opt_rel (A := A) fun y hy => ho y (by simp [Op.operands, hy])) hu
    exact wp_value (by simp [execOp, hop, hV]) (hK _ _ ρ (Nx.refl hR) hr)
  | fieldAddr s x f =>
    rw [hop] at hs ho
    simp [Op.operands] at ho
    simp only [sop, Option.map_eq_some_iff, Prod.mk.injEq] at hs
    obtain ⟨u, hu, rfl, rfl⟩ := hs
    obtain ⟨V, hV, hr⟩ := fieldAddrS_ok (W := W) ho hu
    exact wp_value (by simp [execOp, hop, hV]) (hK _ _ ρ (Nx.refl hR) hr)
  | field s x f =>
    rw [hop] at hs ho
    simp [Op.operands] at ho
    simp only [sop, Option.map_eq_some_iff, Prod.mk.injEq] at hs
    obtain ⟨u, hu, rfl, rfl⟩ := hs
    obtain ⟨V, hV, hr⟩ := fieldS_ok (W := W) ho hu
    exact wp_value (by simp [execOp, hop, hV]) (hK _ _ ρ (Nx.refl hR) hr)
  | indexAddr t x i =>
    rw [hop] at hs ho
    simp [Op.operands] at ho
    simp only [sop, Option.map_eq_some_iff, Prod.mk.injEq] at hs
    obtain ⟨u, hu, rfl, rfl⟩ := hs
    obtain ⟨V, hV, hr⟩ := idxAddr_ok (W := W) ho.1 ho.2 hu
    exact wp_value (by simp [execOp, hop, hV]) (hK _ _ ρ (Nx.refl hR) hr)
  | index t x i =>
    rw [hop] at hs ho
    simp [Op.operands] at ho
    simp only [sop] at hs
    split at hs
    · rename_i hf
      simp only [Bool.and_eq_true] at hf
      split at hs
      · rename_i u hu
        split at hs
        · rename_i hfu
          simp at hs
          obtain ⟨rfl, rfl⟩ := hs
          have hx := flat_eq hf.1 ho.1
          have hi := flat_eq hf.2 ho.2
          exact wp_value (V := u) (by simp [execOp, hop, hx, hi, run_pureRun hu]) (hK _ _ ρ (Nx.refl hR) (vrel_flat hfu))
        · cases hs
      · cases hs
    · cases hs
  | lookup t m k ok =>
    rw [hop] at hs ho
    simp [Op.operands] at ho
    simp only [sop, Option.map_eq_some_iff, Prod.mk.injEq] at hs
    obtain ⟨u, hu, rfl, rfl⟩ := hs
    obtain ⟨V, hV, hr⟩ := lookupS_ok hR ho.1 ho.2 hu
    exact wp_value (by simp [execOp, hop, hV]) (hK _ _ ρ (Nx.refl hR) hr)
  | mapUpdate t m k x =>
    rw [hop] at hs ho
    simp [Op.operands] at ho
    simp only [sop, Option.map_eq_some_iff, Prod.mk.injEq] at hs
    obtain ⟨u, hu, rfl, rfl⟩ := hs
    obtain ⟨W', hW, hN⟩ := updateS_ok hR ho.1 ho.2.1 ho.2.2 hu
    exact wp_none (by simp [execOp, hop, hW]) (hK _ _ ρ hN vrel_undef)
  | insert t m k x =>
    rw [hop] at hs ho
    simp [Op.operands] at ho
    simp only [sop, Option.map_eq_some_iff, Prod.mk.injEq] at hs
    obtain ⟨u, hu, rfl, rfl⟩ := hs
    obtain ⟨W', hW, hN⟩ := updateS_ok hR ho.1 ho.2.1 ho.2.2 hu
    exact wp_none (by simp [execOp, hop, hW]) (hK _ _ ρ hN vrel_undef)
  | extract t i =>
    rw [hop] at hs ho
    simp [Op.operands] at ho
    simp only [sop] at hs
    have hx := ho
    split at hs
    · rename_i vs hvs
      simp only [Option.map_eq_some_iff, Prod.mk.injEq] at hs
      obtain ⟨u, hu, rfl, rfl⟩ := hs
      rw [hvs] at hx
      obtain ⟨cs', hV, hall⟩ := vrel_tuple hx
      obtain ⟨V, hV2, hr⟩ := hall.get (i := i) (by simpa using hu)
      simp at hV2
      exact wp_value (V := V) (by simp [execOp, hop, hV, Instr.extract, hV2]) (hK _ _ ρ (Nx.refl hR) hr)
    · cases hs
  | call c =>
    rw [hop] at hs ho
    simp only [sop] at hs
    have hargs := evs_rel (ρ := ρ) (T := T) (A := A) (l := c.args) fun x hx => ho x (by simp [Op.operands, Call.operands, hx])
    unfold callS at hs
    split at hs
    · rename_i hc
      split at hs
      · rename_i t x ht hx
        simp only [Option.map_eq_some_iff, Prod.mk.injEq] at hs
        obtain ⟨u, hu, rfl, rfl⟩ := hs
        rw [hx] at hargs
        cases hA : (c.args.map A.eval).toList with
        | nil => rw [hA] at hargs; cases hargs
        | cons X L =>
          rw [hA] at hargs
          cases hargs with
          | cons hX hL =>
          cases hL
          have hA2 : c.args.map A.eval = #[X] := Array.toList_inj.1 hA
          have ht2 : c.argTypes = #[t] := Array.toList_inj.1 ht
          obtain ⟨V, hV, hr⟩ := lenS_ok (ty := o.type) hR hX hu
          exact wp_value (V := V) (by simp [execOp, hop, resolve, hc, invoke, builtin, hA2, ht2, hV]) (hK _ _ ρ (Nx.refl hR) hr)
      · cases hs
    · rename_i hc
      split at hs
      · rename_i t t' d s ht hx
        split at hs
        · rename_i htt
          subst htt
          rw [hx] at hargs
          cases hA : (c.args.map A.eval).toList with
          | nil => rw [hA] at hargs; cases hargs
          | cons X L =>
            rw [hA] at hargs
            cases hargs with
            | cons hX hL =>
            cases L with
            | nil => cases hL
            | cons Y L =>
            cases hL with
            | cons hY hL =>
            cases hL
            have hA2 : c.args.map A.eval = #[X, Y] := Array.toList_inj.1 hA
            have ht2 : c.argTypes = #[t, t] := Array.toList_inj.1 ht
            obtain ⟨V, W', ρ', hV, hN, hr⟩ := appendS_ok (ty := o.type) hR hX hY hs
            exact wp_value (V := V) (by simp [execOp, hop, resolve, hc, invoke, builtin, hA2, ht2, hV]) (hK _ _ ρ' hN hr)
        · cases hs
      · cases hs
    · rename_i hc
      split at hs
      · rename_i t t' d s ht hx
        split at hs
        · rename_i htt
          subst htt
          rw [hx] at hargs
          cases hA : (c.args.map A.eval).toList with
          | nil => rw [hA] at hargs; cases hargs
          | cons X L =>
            rw [hA] at hargs
            cases hargs with
            | cons hX hL =>
            cases L with
            | nil => cases hL
            | cons Y L =>
            cases hL with
            | cons hY hL =>
            cases hL
            have hA2 : c.args.map A.eval = #[X, Y] := Array.toList_inj.1 hA
            have ht2 : c.argTypes = #[t, t] := Array.toList_inj.1 ht
            obtain ⟨V, W', ρ', hV, hN, hr⟩ := copyS_ok (ty := o.type) hR hX hY hs
            exact wp_value (V := V) (by simp [execOp, hop, resolve, hc, invoke, builtin, hA2, ht2, hV]) (hK _ _ ρ' hN hr)
        · cases hs
      · cases hs
    · rename_i hc
      simp only [Option.map_eq_some_iff, Prod.mk.injEq] at hs
      obtain ⟨u, hu, rfl, rfl⟩ := hs
      obtain ⟨hV, hr⟩ := maxS_ok (P := P) (W := W) (ty := o.type) (at_ := c.argTypes) hargs hu
      exact wp_value (V := u) (by simp [execOp, hop, resolve, hc, invoke, builtin, hV]) (hK _ _ ρ (Nx.refl hR) hr)
    · rename_i hc
      simp only [Option.map_eq_some_iff, Prod.mk.injEq] at hs
      obtain ⟨u, hu, rfl, rfl⟩ := hs
      obtain ⟨hV, hr⟩ := minS_ok (P := P) (W := W) (ty := o.type) (at_ := c.argTypes) hargs hu
      exact wp_value (V := u) (by simp [execOp, hop, resolve, hc, invoke, builtin, hV]) (hK _ _ ρ (Nx.refl hR) hr)
    · rename_i f hc
      split at hs
      · rename_i k first captured hf
        have hfr := ho f (by simp [Op.operands, Call.operands, hc])
        rw [hf] at hfr
        obtain ⟨f', c', hV, h1, h2⟩ := vrel_func hfr
        obtain ⟨⟨fn, body, hfn, hbody, hname⟩, hc2⟩ := hcall _ _ _ _ _ hs
        have hall : All2 (vrel ρ) (first.toList ++ evs T c.args ++ captured.toList) (f' ++ c.args.map A.eval ++ c').toList := by
          simp only [Array.toList_append]
          exact (h1.append hargs).append h2
        have hcalls := hc2 ρ W _ hR hall
        have hrun : (execOp A.eval o).run P W = .ok (.enter k (f' ++ c.args.map A.eval ++ c')) W := by
          have hname' : ¬ fn.name = "runtime.NumGoroutine" := beq_eq_false_iff_ne.1 hname
          simp [execOp, hop, resolve, hc, hV, Deferred.ofValue, invoke, callFunc, program, Sem.run, hfn, hname', hbody]
        unfold Oper.wp
        rw [hrun, Oper.upon_enter]
        refine hcalls.mono fun e W' ⟨V, ρ', he, hN, hr⟩ => ?_
        subst he
        exact hK V W' ρ' hN hr
      · cases hs
    · rename_i r m hc
      split at hs
      · rename_i t u hf
        have hfr := ho r (by simp [Op.operands, Call.operands, hc])
        rw [hf] at hfr
        obtain ⟨U, hV, hu⟩ := vrel_iface hfr
        split at hs
        · rename_i k u' hm
          obtain ⟨rfl, hmr⟩ := methodS_ok (W := W) (n := P.types.size + Made.depth - 1) hu hm
          obtain ⟨⟨fn, body, hfn, hbody, hname⟩, hc2⟩ := hcall _ _ _ _ _ hs
          have hall : All2 (vrel ρ) (u' :: evs T c.args) (#[U] ++ c.args.map A.eval).toList := by
            simp only [Array.toList_append]
            exact .cons hu hargs
          have hcalls := hc2 ρ W _ hR hall
          have hn : P.types.size + Made.depth - 1 + 1 = P.types.size + Made.depth := Nat.sub_add_cancel (by unfold Made.depth; omega)
          rw [hn] at hmr
          have hrun : (execOp A.eval o).run P W = .ok (.enter k (#[U] ++ c.args.map A.eval)) W := by
            have hname' : ¬ fn.name = "runtime.NumGoroutine" := beq_eq_false_iff_ne.1 hname
            have hget : (#[A.eval r] ++ c.args.map A.eval)[0]? = some (A.eval r) := by rw [Array.getElem?_append_left (by simp)]; rfl
            have hext : (#[A.eval r] ++ c.args.map A.eval).extract 1 (#[A.eval r] ++ c.args.map A.eval).size = c.args.map A.eval := by
              apply Array.toList_inj.1
              simp
              exact List.take_of_length_le (by simp)
            simp only [execOp, hop, resolve, hc, Sem.run_bind, Sem.run_pure, Result.andThen_ok, invoke, hget, hext]
            rw [hV]
            simp [callMethod, Sem.run_bind, hmr, callFunc, hfn, hname', hbody]
          unfold Oper.wp
          rw [hrun, Oper.upon_enter]
          refine hcalls.mono fun e W' ⟨V, ρ', he, hN, hr⟩ => ?_
          subst he
          exact hK V W' ρ' hN hr
        · cases hs
      · cases hs
    · cases hs
  | makeInterface t x =>
    rw [hop] at hs ho
    simp [Op.operands] at ho
    simp only [sop] at hs
    split at hs
    · cases hs
    · rename_i d hne hu
      cases hs
      refine wp_value (V := .iface t (A.eval x)) (W' := W) ?_ (hK _ _ ρ (Nx.refl hR) (.iface ho))
      cases d <;> first | (exact (hne _ rfl).elim) | (simp [execOp, hop, Instr.makeInterface, run_underlying hu])
    · cases hs
  | typeAssert x xt asserted ok =>
    rw [hop] at hs ho
    simp [Op.operands] at ho
    simp only [sop, Option.map_eq_some_iff, Prod.mk.injEq] at hs
    obtain ⟨u, hu, rfl, rfl⟩ := hs
    obtain ⟨V, hV, hr⟩ := assertS_ok (W := W) (xt := xt) ho hu
    exact wp_value (by simp [execOp, hop, hV]) (hK _ _ ρ (Nx.refl hR) hr)
  | _ =>
    rw [hop] at hs
    simp [sop] at hs

end
end Go.Sx
