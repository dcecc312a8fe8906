/- The shadow reading with a table of proved summaries ahead; rules to step through it. -/
import Derived.Test.YtdnnjkneablfiaaGreatDoorSxU
namespace Go.Sx
open Go
set_option linter.unusedSimpArgs false
set_option linter.unusedVariables false

/-- One step of the reading, over a call of its own. -/
noncomputable def bodyF (P : Program) (call : SCall) (n : Nat) : SCall := fun f args h =>
  match P.funcs[f]? with
  | some fn => match fn.body with
    | some c => if args.length ≤ fn.ntmps then
        match codeS P call n c ⟨tmps0 0 args .leaf, h⟩ with
        | some (.normal, s) | some (.ret, s) => match resS P s fn.results.toList with
          | some [v] => some (v, s.h)
          | some vs => some (.tuple vs.toArray, s.h)
          | none => none
        | _ => none
      else none
    | none => none
  | none => none

noncomputable def callG (P : Program) (base : SCall) : Nat → SCall
  | 0, _, _, _ => none
  | n + 1, f, args, h => match base f args h with
    | some r => some r
    | none => bodyF P (callG P base n) n f args h

def SnxOK (call : SCall) : Prop := ∀ f args h v h', call f args h = some (v, h') → SNx h h'

theorem body_ok {P : Program} (hP : progOK P = true) {call : SCall} (ih1 : CallOK P call) (ih2 : SnxOK call) (fuel : Nat) : CallOK P (bodyF P call fuel) ∧ SnxOK (bodyF P call fuel) := by
  simp only [progOK, Bool.and_eq_true] at hP
  obtain ⟨hm, hall⟩ := hP
  have key : ∀ f args h v h', bodyF P call fuel f args h = some (v, h') → ∃ fn c e s vs, P.funcs[f]? = some fn ∧ fn.body = some c ∧ args.length ≤ fn.ntmps ∧ (e = .normal ∨ e = .ret) ∧
      codeS P call fuel c ⟨tmps0 0 args .leaf, h⟩ = some (e, s) ∧ resS P s fn.results.toList = some vs ∧ v = resV vs ∧ h' = s.h := by
    intro f args h v h' hs
    simp only [bodyF] at hs
    split at hs
    · rename_i fn hfn
      split at hs
      · rename_i c hc
        split at hs
        · rename_i hlen
          split at hs
          · rename_i s hcode
            obtain ⟨vs, h1, h2, h3⟩ := resV_map hs
            exact ⟨fn, c, .normal, s, vs, hfn, hc, hlen, .inl rfl, hcode, h1, h2, h3⟩
          · rename_i s hcode
            obtain ⟨vs, h1, h2, h3⟩ := resV_map hs
            exact ⟨fn, c, .ret, s, vs, hfn, hc, hlen, .inr rfl, hcode, h1, h2, h3⟩
          · cases hs
        · cases hs
      · cases hs
    · cases hs
  have hfOK : ∀ (f : FuncId) (fn : Func) (c : Code), P.funcs[f]? = some fn → fn.body = some c → codeOK P fn.ntmps c = true ∧ (fn.name == "runtime.NumGoroutine") = false := by
    intro f fn c hfn hc
    have := List.all_eq_true.1 hall fn (List.mem_of_getElem? (i := f) (by simpa using hfn))
    unfold funcOK at this
    rw [hc] at this
    simp only [Bool.and_eq_true, Bool.not_eq_true'] at this
    exact this
  refine ⟨fun f args h v h' hs => ?_, fun f args h v h' hs => ?_⟩
  · obtain ⟨fn, c, e, s, vs, hfn, hc, hlen, he, hcode, hres, hv, hh⟩ := key f args h v h' hs
    obtain ⟨hcOK, hname⟩ := hfOK f fn c hfn hc
    refine ⟨⟨fn, c, hfn, hc, hname⟩, fun ρ W ARGS hR hargs => ?_⟩
    have hsz : ARGS.size = args.length := by have := hargs.length; simpa using this.symm
    refine calls_of_wp hfn hc (code_ok ih1 ih2 hm fuel c hcOK hcode hR ?_ (by simp; omega) fun A' W' ρ' hN hT' hn' hd' => ?_)
    · intro t
      simp only [tmps0_get]
      show vrel ρ _ ((ARGS ++ Array.replicate (fn.ntmps - ARGS.size) undef).getD t undef)
      rw [Array.getD_eq_getD_getElem?, Array.getElem?_append]
      by_cases ht : t < args.length
      · rw [if_pos (by omega), if_pos (by omega)]
        obtain ⟨b, hb, hr⟩ := hargs.get (i := t) (a := args[t]) (by simp [ht])
        have hb' : ARGS[t]? = some b := by simpa using hb
        rw [hb']
        simpa [ht] using hr
      · rw [if_neg (by omega), if_neg (by omega), Array.getElem?_replicate]
        have : (Tr.leaf).get t = undef := rfl
        rw [this]
        split <;> exact vrel_undef
    · obtain ⟨V, hV, hr⟩ := results_ok hres hN.rel hT'
      have hb : bodyPost P fn (fun e W' => ∃ V ρ', e = .returned V ∧ Nx P ρ h W ρ' h' W' ∧ vrel ρ' v V) .normal A' W' := ⟨hd', V, hV, V, ρ', rfl, by rw [hh]; exact hN, by rw [hv]; exact hr⟩
      rcases he with rfl | rfl
      · exact hb
      · exact hb
  · obtain ⟨fn, c, e, s, vs, hfn, hc, hlen, he, hcode, hres, hv, hh⟩ := key f args h v h' hs
    rw [hh]
    exact code_snx ih2 fuel c hcode

theorem callG_ok {P : Program} (hP : progOK P = true) {base : SCall} (hb : CallOK P base) (hs : SnxOK base) : ∀ fuel, CallOK P (callG P base fuel) ∧ SnxOK (callG P base fuel) := by
  intro fuel
  induction fuel with
  | zero => exact ⟨fun f args h v h' hs => by simp [callG] at hs, fun f args h v h' hs => by simp [callG] at hs⟩
  | succ fuel ih =>
    obtain ⟨i1, i2⟩ := body_ok hP ih.1 ih.2 fuel
    refine ⟨fun f args h v h' hh => ?_, fun f args h v h' hh => ?_⟩
    · simp only [callG] at hh
      split at hh
      · rename_i r hr; cases hh; exact hb f args h v h' hr
      · exact i1 f args h v h' hh
    · simp only [callG] at hh
      split at hh
      · rename_i r hr; cases hh; exact hs f args h v h' hr
      · exact i2 f args h v h' hh

/-- A closed call that was evaluated over the heap with one object, only read: it is known wherever object 0 is that. -/
noncomputable def closedB (f0 : FuncId) (o : SObj) : SCall := fun f args h => by
  classical
  exact if f = f0 ∧ args = [] ∧ h.get 0 = o then some (.bool true, h) else none

theorem closedG_ok {P : Program} {call : SCall} (hC : CallOK P call) {f0 : FuncId} {cs : List Value} {ty : TypeId} {g : Bool} {h' : SHeap} (hgl : P.globals.size = 1) (hflat : cs.all flat1 = true)
    (hs : call f0 [] ⟨1, 0, .node (.row cs ty g true) .leaf .leaf⟩ = some (.bool true, h')) : CallOK P (closedB f0 (.row cs ty g true)) ∧ SnxOK (closedB f0 (.row cs ty g true)) := by
  have key : ∀ f args h v h1, closedB f0 (.row cs ty g true) f args h = some (v, h1) → f = f0 ∧ args = [] ∧ h.get 0 = .row cs ty g true ∧ v = .bool true ∧ h1 = h := by
    intro f args h v h1 he
    unfold closedB at he
    split at he
    · rename_i hc
      cases he
      exact ⟨hc.1, hc.2.1, hc.2.2, rfl, rfl⟩
    · cases he
  refine ⟨fun f args h v h1 he => ?_, fun f args h v h1 he => ?_⟩
  · obtain ⟨rfl, rfl, hg, rfl, rfl⟩ := key f args h v h1 he
    obtain ⟨hfn, hcall⟩ := hC f [] _ _ _ hs
    refine ⟨hfn, fun ρ W ARGS hR hargs => ?_⟩
    obtain ⟨L0, hL0, hb0, hd0⟩ := hR.glob 0 (by omega)
    have ho := hR.obj 0
    rw [hg] at ho
    obtain ⟨L, CS, ty', fr, hL, hW, hcs, _⟩ := ho
    have hro := rel_ro (P := P) (W := W) (ρ := fun i => if i = 0 then some L0 else none) (h := ⟨1, 0, .node (.row cs ty g true) .leaf .leaf⟩) rfl (fun i hi => by
        have : 1 ≤ i := hi
        rw [if_neg (by omega)]) (fun g hg => by
        obtain rfl : g = 0 := by omega
        exact ⟨L0, rfl, hb0, hd0⟩) (fun i hi => by
        have : i < 1 := hi
        obtain rfl : i = 0 := by omega
        rw [hL0] at hL
        cases hL
        exact ⟨cs, ty, g, L0, CS, ty', fr, rfl, rfl, hW, fun k v hv => by
          obtain ⟨V, hV, hr⟩ := hcs k v hv
          have hf := List.all_eq_true.1 hflat v (List.mem_of_getElem? hv)
          rw [flat1_eq hf hr] at hV
          exact ⟨v, hV, .flat hf⟩⟩)
    refine (hcall _ W ARGS hro.1 (by rw [List.length_eq_zero_iff.1 hargs.length.symm]; exact .nil)).mono fun e W' ⟨V, ρ', he, hN, hv⟩ => ⟨V, ρ, he, (Nx.refl hR).grow (hN.fr.gr hro.2), ?_⟩
    rw [vrel_bool hv]
    exact .flat rfl
  · obtain ⟨rfl, rfl, hg, rfl, rfl⟩ := key f args h v h1 he
    exact .refl _

theorem closedB_ok {P : Program} (hP : progOK P = true) {fuel : Nat} {f0 : FuncId} {cs : List Value} {ty : TypeId} {g : Bool} {h' : SHeap} (hgl : P.globals.size = 1) (hflat : cs.all flat1 = true)
    (hs : callF P fuel f0 [] ⟨1, 0, .node (.row cs ty g true) .leaf .leaf⟩ = some (.bool true, h')) : CallOK P (closedB f0 (.row cs ty g true)) ∧ SnxOK (closedB f0 (.row cs ty g true)) :=
  closedG_ok (callF_ok hP fuel).1 hgl hflat hs

/-! ### Rules -/

section
variable {P : Program} {call : SCall} {n : Nat}

def WS (P : Program) (call : SCall) (n : Nat) (c : Code) (s : St) (Q : SExit → St → Prop) : Prop := ∃ e s', codeS P call n c s = some (e, s') ∧ Q e s'
def WL (P : Program) (call : SCall) (ops : Array Oper) (l : List Oper) (s : St) (Q : St → Prop) : Prop := ∃ s', seqS P call ops l s = some s' ∧ Q s'
def WD (P : Program) (call : SCall) (ops : Array Oper) (start i : Nat) (l : List Oper) (s : St) (Q : St → Prop) : Prop := ∃ s', seqD P call ops start i l s = some s' ∧ Q s'

def SExit.on (K : St → Prop) (Q : SExit → St → Prop) : SExit → St → Prop
  | .normal, s => K s
  | e, s => Q e s
def SExit.inB (id : Nat) (Q : SExit → St → Prop) : SExit → St → Prop
  | .exit i, s => if i = id then Q .normal s else Q (.exit i) s
  | e, s => Q e s

variable {s : St} {Q : SExit → St → Prop}
theorem WS.skip (h : Q .normal s) : WS P call n .skip s Q := ⟨_, _, rfl, h⟩
theorem WS.exit {id : Nat} (h : Q (.exit id) s) : WS P call n (.exit id) s Q := ⟨_, _, rfl, h⟩
theorem WS.ret (h : Q .ret s) : WS P call n .ret s Q := ⟨_, _, rfl, h⟩
theorem WS.seq {a b : Code} (h : WS P call n a s (SExit.on (fun s' => WS P call n b s' Q) Q)) : WS P call n (.seq a b) s Q := by
  obtain ⟨e, s', h1, h2⟩ := h
  cases e with
  | normal =>
    obtain ⟨e2, s2, h3, h4⟩ := h2
    exact ⟨e2, s2, by simp only [codeS, h1, h3], h4⟩
  | exit id => exact ⟨_, _, by simp only [codeS, h1], h2⟩
  | ret => exact ⟨_, _, by simp only [codeS, h1], h2⟩
theorem WS.cond {c : Operand} {a b : Code} {t : Bool} (hc : ev s.T c = .bool t) (h1 : t = true → WS P call n a s Q) (h2 : t = false → WS P call n b s Q) : WS P call n (.cond c a b) s Q := by
  cases t with
  | true =>
    obtain ⟨e, s', h3, h4⟩ := h1 rfl
    exact ⟨e, s', by simp only [codeS, hc, h3], h4⟩
  | false =>
    obtain ⟨e, s', h3, h4⟩ := h2 rfl
    exact ⟨e, s', by simp only [codeS, hc, h3], h4⟩
theorem WS.block {id : Nat} {c : Code} (h : WS P call n c s (SExit.inB id Q)) : WS P call n (.block id c) s Q := by
  obtain ⟨e, s', h1, h2⟩ := h
  cases e with
  | normal => exact ⟨_, _, by simp only [codeS, h1], h2⟩
  | exit i =>
    by_cases hi : i = id
    · subst hi
      exact ⟨.normal, s', by simp only [codeS, h1, if_true], by simpa [SExit.inB] using h2⟩
    · exact ⟨.exit i, s', by simp only [codeS, h1, hi, if_false], by simpa [SExit.inB, hi] using h2⟩
  | ret => exact ⟨_, _, by simp only [codeS, h1], h2⟩
theorem WS.region {id : Nat} {ops : Array Oper} (h : WL P call ops ops.toList s (Q .normal)) : WS P call n (.region id ops false) s Q := by
  obtain ⟨s', h1, h2⟩ := h
  exact ⟨_, _, by simp only [codeS, h1]; rfl, h2⟩
theorem WS.draw {id : Nat} {ops : Array Oper} (h : WD P call ops s.h.next 0 ops.toList s (Q .normal)) : WS P call n (.region id ops true) s Q := by
  obtain ⟨s', h1, h2⟩ := h
  exact ⟨_, _, by simp only [codeS, h1]; rfl, h2⟩
theorem WS.loop {c : Code} (I : Nat → St → Prop) (N : Nat) (hN : N < n) (h0 : I 0 s)
    (hr : ∀ k s, k ≤ N → I k s → WS P call n c s (SExit.on (fun s' => k < N ∧ I (k + 1) s') Q)) : WS P call n (.loop c) s Q := by
  have key : ∀ (m k : Nat) (s : St), k + m = N → I k s → ∀ f, m < f → ∃ e s', loopS (codeS P call n c) f s = some (e, s') ∧ Q e s' := by
    intro m
    induction m with
    | zero =>
      intro k s hk hI f hf
      obtain ⟨f, rfl⟩ : ∃ f', f = f' + 1 := ⟨f - 1, by omega⟩
      obtain ⟨e, s', h1, h2⟩ := hr k s (by omega) hI
      cases e with
      | normal => obtain ⟨hk', _⟩ := h2; omega
      | exit id => exact ⟨_, _, by simp only [loopS, h1], h2⟩
      | ret => exact ⟨_, _, by simp only [loopS, h1], h2⟩
    | succ m ih =>
      intro k s hk hI f hf
      obtain ⟨f, rfl⟩ : ∃ f', f = f' + 1 := ⟨f - 1, by omega⟩
      obtain ⟨e, s', h1, h2⟩ := hr k s (by omega) hI
      cases e with
      | normal =>
        obtain ⟨hk', hI'⟩ := h2
        obtain ⟨e2, s2, h3, h4⟩ := ih (k + 1) s' (by omega) hI' f (by omega)
        exact ⟨e2, s2, by simp only [loopS, h1, h3], h4⟩
      | exit id => exact ⟨_, _, by simp only [loopS, h1], h2⟩
      | ret => exact ⟨_, _, by simp only [loopS, h1], h2⟩
  obtain ⟨e, s', h1, h2⟩ := key N 0 s (by omega) h0 n hN
  exact ⟨e, s', by simp only [codeS, h1], h2⟩
theorem WS.mono {c : Code} {Q' : SExit → St → Prop} (h : WS P call n c s Q) (hq : ∀ e s, Q e s → Q' e s) : WS P call n c s Q' := by
  obtain ⟨e, s', h1, h2⟩ := h
  exact ⟨e, s', h1, hq _ _ h2⟩

theorem WL.nil {ops : Array Oper} {K : St → Prop} (h : K s) : WL P call ops [] s K := ⟨s, rfl, h⟩
theorem WL.step {ops : Array Oper} {o : Oper} {l : List Oper} {K : St → Prop} {v : Value} {h' : SHeap} (hw : wantS ops s.T o = true) (hs : sop P call s.T s.h o.op = some (v, h')) (h : WL P call ops l ⟨s.T.put o.dst v, h'⟩ K) : WL P call ops (o :: l) s K := by
  obtain ⟨s', h1, h2⟩ := h
  refine ⟨s', ?_, h2⟩
  simp only [seqS, stepS, hw, if_true, hs, h1]
theorem WL.pass {ops : Array Oper} {o : Oper} {l : List Oper} {K : St → Prop} (hw : wantS ops s.T o = false) (h : WL P call ops l ⟨s.T.put o.dst undef, s.h⟩ K) : WL P call ops (o :: l) s K := by
  obtain ⟨s', h1, h2⟩ := h
  refine ⟨s', ?_, h2⟩
  simp [seqS, stepS, hw, h1]

/-- A call of a function: its body. -/
theorem call_body {f : FuncId} {args : List Value} {h : SHeap} {fn : Func} {c : Code} (hf : P.funcs[f]? = some fn) (hb : fn.body = some c) (hl : args.length ≤ fn.ntmps) {R : Value → SHeap → Prop}
    (hw : WS P call n c ⟨tmps0 0 args .leaf, h⟩ (fun e s => (e = .normal ∨ e = .ret) ∧ ∃ vs, resS P s fn.results.toList = some vs ∧ R (resV vs) s.h)) : ∃ v h', bodyF P call n f args h = some (v, h') ∧ R v h' := by
  obtain ⟨e, s, h1, he, vs, h2, h3⟩ := hw
  refine ⟨_, _, ?_, h3⟩
  have hm : (match some vs with
          | some [v] => some (v, s.h)
          | some vs => some (.tuple vs.toArray, s.h)
          | none => none) = some (resV vs, s.h) := by
    match vs with
    | [] => rfl
    | [u] => rfl
    | u :: u' :: us => rfl
  rcases he with rfl | rfl <;> (simp only [bodyF, hf, hb, hl, if_true, h1, h2]; exact hm)
end

/-! ### Two-place operations of integers -/

section
variable {P : Program} {t : TypeId} {x y : Operand} {k : IntKind} {a b : Int}
theorem bin_lss : binS P .lss t x y (.int k a) (.int k b) = some (.bool (decide (a < b))) := by simp [binS, flat, flat1, pureRun, Go.eqGuard, Go.binOp, Op.intCmp, Bind.bind, Sem.bind, Pure.pure]
theorem bin_leq : binS P .leq t x y (.int k a) (.int k b) = some (.bool (decide (a ≤ b))) := by simp [binS, flat, flat1, pureRun, Go.eqGuard, Go.binOp, Op.intCmp, Bind.bind, Sem.bind, Pure.pure]
theorem bin_gtr : binS P .gtr t x y (.int k a) (.int k b) = some (.bool (decide (a > b))) := by simp [binS, flat, flat1, pureRun, Go.eqGuard, Go.binOp, Op.intCmp, Bind.bind, Sem.bind, Pure.pure]
theorem bin_geq : binS P .geq t x y (.int k a) (.int k b) = some (.bool (decide (a ≥ b))) := by simp [binS, flat, flat1, pureRun, Go.eqGuard, Go.binOp, Op.intCmp, Bind.bind, Sem.bind, Pure.pure]
theorem bin_eql : binS P .eql t x y (.int k a) (.int k b) = some (.bool (a == b)) := by simp [binS, flat, flat1, pureRun, Go.eqGuard, Go.binOp, Op.intCmp, Bind.bind, Sem.bind, Pure.pure]
theorem bin_neq : binS P .neq t x y (.int k a) (.int k b) = some (.bool (a != b)) := by simp [binS, flat, flat1, pureRun, Go.eqGuard, Go.binOp, Op.intCmp, Bind.bind, Sem.bind, Pure.pure]
theorem bin_add : binS P .add t x y (.int k a) (.int k b) = some (.int k (k.wrap (a + b))) := by simp [binS, flat, flat1, pureRun, Go.eqGuard, Go.binOp, Op.intArith, Bind.bind, Sem.bind, Pure.pure]
theorem bin_sub : binS P .sub t x y (.int k a) (.int k b) = some (.int k (k.wrap (a - b))) := by simp [binS, flat, flat1, pureRun, Go.eqGuard, Go.binOp, Op.intArith, Bind.bind, Sem.bind, Pure.pure]
theorem bin_mul : binS P .mul t x y (.int k a) (.int k b) = some (.int k (k.wrap (a * b))) := by simp [binS, flat, flat1, pureRun, Go.eqGuard, Go.binOp, Op.intArith, Bind.bind, Sem.bind, Pure.pure]
theorem bin_quo (hb : b ≠ 0) : binS P .quo t x y (.int k a) (.int k b) = some (.int k (k.wrap (a.tdiv b))) := by simp [binS, flat, flat1, pureRun, Go.eqGuard, Go.binOp, Op.intDiv, Bind.bind, Sem.bind, Pure.pure, hb]
theorem bin_rem (hb : b ≠ 0) : binS P .rem t x y (.int k a) (.int k b) = some (.int k (a.tmod b)) := by simp [binS, flat, flat1, pureRun, Go.eqGuard, Go.binOp, Op.intDiv, Bind.bind, Sem.bind, Pure.pure, hb]
end
end Go.Sx
