/- Panics, deferred calls, recover: calls; the reading is the machine's. -/
import Derived.Test.YtdnnjkneablfiaaGreatDoorSx20
namespace Go.Sx
open Go
set_option linter.unusedSimpArgs false
set_option linter.unusedVariables false

theorem pan_snx {P : Program} {pc : PCall} (hsn : PSnx pc) {T : Tr} {h h' : SHeap} {op : Op} {v : Value} (hp : panOp P pc T h op = some (v, h')) : SNx h h' := by
  cases op with
  | panic x =>
    simp only [panOp] at hp
    split at hp
    · cases hp; exact .refl _
    · cases hp
  | call c =>
    simp only [panOp] at hp
    split at hp
    · split at hp
      · rename_i hcall; cases hp; exact hsn _ _ _ _ _ hcall
      · cases hp
    · cases hp
  | _ => simp [panOp] at hp

theorem step_snx {P : Program} {call : SCall} (hsn : SnxOK call) {ops : Array Oper} {o : Oper} {s s' : St} (h : stepS P call ops o s = some s') : SNx s.h s'.h := by
  unfold stepS at h
  split at h
  · split at h
    · rename_i v h' hv
      cases h
      exact sop_snx hsn hv
    · cases h
  · cases h; exact .refl _

theorem seqP_snx {P : Program} {pc : PCall} (hsn : PSnx pc) {ops : Array Oper} : ∀ (l : List Oper) {s s' : PSt} {e : PExit}, seqP P pc ops l s = some (e, s') → SNx s.s.h s'.s.h := by
  intro l
  induction l with
  | nil => intro s s' e hs; simp [seqP] at hs; obtain ⟨rfl, rfl⟩ := hs; exact .refl _
  | cons o l ih =>
    intro s s' e hs
    simp only [seqP] at hs
    split at hs
    · rename_i s1 h1
      exact (step_snx (retS_snx hsn) h1).trans (ih hs)
    · split at hs
      · split at hs
        · have h2 := ih hs
          exact h2
        · split at hs
          · rename_i v h' hp
            cases hs
            exact pan_snx hsn hp
          · cases hs
      · cases hs

theorem codeP_snx {P : Program} {pc : PCall} (hsn : PSnx pc) (fuel : Nat) : ∀ (c : Code) {s s' : PSt} {e : PExit}, codeP P pc fuel c s = some (e, s') → SNx s.s.h s'.s.h := by
  intro c
  induction c with
  | skip => intro s s' e hs; simp [codeP] at hs; obtain ⟨rfl, rfl⟩ := hs; exact .refl _
  | region id ops draw =>
    intro s s' e hs
    simp only [codeP] at hs
    split at hs
    · simp only [Option.map_eq_some_iff, Prod.mk.injEq] at hs
      obtain ⟨s1, h1, rfl, rfl⟩ := hs
      exact draw_snx (retS_snx hsn) _ _ h1
    · exact seqP_snx hsn _ hs
  | seq a b iha ihb =>
    intro s s' e hs
    simp only [codeP] at hs
    split at hs
    · rename_i s1 h1; exact (iha h1).trans (ihb hs)
    · exact iha hs
  | cond c a b iha ihb =>
    intro s s' e hs
    simp only [codeP] at hs
    split at hs
    · exact iha hs
    · exact ihb hs
    · cases hs
  | block id c ih =>
    intro s s' e hs
    simp only [codeP] at hs
    split at hs
    · rename_i i s1 h1
      split at hs <;> (cases hs; exact ih h1)
    · exact ih hs
  | loop c ih =>
    intro s s' e hs
    simp only [codeP] at hs
    have key : ∀ (k : Nat) {s : PSt}, loopP (codeP P pc fuel c) k s = some (e, s') → SNx s.s.h s'.s.h := by
      intro k
      induction k with
      | zero => intro s hs; simp [loopP] at hs
      | succ k ihk =>
        intro s hs
        simp only [loopP] at hs
        split at hs
        · rename_i s1 h1; exact (ih h1).trans (ihk hs)
        · exact ih hs
    exact key fuel hs
  | exit id => intro s s' e hs; simp [codeP] at hs; obtain ⟨rfl, rfl⟩ := hs; exact .refl _
  | ret => intro s s' e hs; simp [codeP] at hs; obtain ⟨rfl, rfl⟩ := hs; exact .refl _
  | _ => intro s s' e hs; simp [codeP] at hs

/-! ### A deferred call -/

theorem defS_some {P : Program} {call : SCall} {n : Nat} {k : FuncId} {args : List Value} {h h2 : SHeap} {pv : Value} (hs : defS P call n k args h pv = some h2) :
    ∃ fn id ops rest o d e s, P.funcs[k]? = some fn ∧ fn.body = some (.seq (.region id ops false) rest) ∧ ops.toList = [o] ∧ isRecover o = some d ∧ args.length ≤ fn.ntmps ∧ fn.results = #[] ∧ d < fn.ntmps ∧
      (e = .normal ∨ e = .ret) ∧ codeS P call n rest ⟨(tmps0 0 args .leaf).set d pv, h⟩ = some (e, s) ∧ h2 = s.h := by
  unfold defS at hs
  split at hs
  · rename_i fn hfn
    split at hs
    · rename_i id ops rest hb
      split at hs
      · rename_i o hops
        split at hs
        · rename_i d hd
          split at hs
          · rename_i hc
            simp only [Bool.and_eq_true, decide_eq_true_eq] at hc
            have hr : fn.results = #[] := by simpa [Array.isEmpty_iff] using hc.1.2
            split at hs
            · rename_i s hcode
              cases hs
              exact ⟨fn, id, ops, rest, o, d, .normal, s, hfn, hb, hops, hd, hc.1.1, hr, hc.2, .inl rfl, hcode, rfl⟩
            · rename_i s hcode
              cases hs
              exact ⟨fn, id, ops, rest, o, d, .ret, s, hfn, hb, hops, hd, hc.1.1, hr, hc.2, .inr rfl, hcode, rfl⟩
            · cases hs
          · cases hs
        · cases hs
      · cases hs
    · cases hs
  · cases hs

theorem recover_run {P : Program} {A : Act} {W : World} {o : Oper} {d : Tmp} (h : isRecover o = some d) : (execOp A.eval o).run P W = .ok .recover W ∧ o.dst = some d ∧ o.guard = none := by
  unfold isRecover at h
  split at h
  · rename_i c d' hop hdst hg
    split at h
    · rename_i hcal
      split at h
      · rename_i ha
        cases h
        exact ⟨by simp [execOp, hop, resolve, hcal, invoke, builtin], hdst, hg⟩
      · cases h
    · cases h
  · cases h

/-- What a caller under way is, and what there is to recover. -/
def modeR (ρ : Map) (pv : Value) (u : FrameMode) : Prop :=
  (pv = .nilIface ∧ u = .returning) ∨ ∃ V, u = .panicking [{ v := V, recovered := false }] ∧ vrel ρ pv V

theorem defS_ok {P : Program} {call : SCall} (hP : progOK P = true) (hcall : CallOK P call) (hsn : SnxOK call) {n : Nat} {k : FuncId} {args : List Value} {h h2 : SHeap} {pv : Value} (hs : defS P call n k args h pv = some h2) {ρ : Map} {W : World} (hR : Rel P ρ h W)
    {D : Deferred} (hD : dR ρ (k, args) D) {u : FrameMode} (hu : modeR ρ pv u) :
    ∃ cap ARGS, D.target = .fn (.func k) cap ∧ (invoke D.target D.args).run P W = .ok (.enter k ARGS) W ∧
      CallsD P k ARGS u W (fun e u' W' => (∃ V, e = .returned V) ∧ settle u' = .returning ∧ ∃ ρ', Nx P ρ h W ρ' h2 W') := by
  obtain ⟨fn, id, ops, rest, o, d, e, s, hfn, hb, hops, hrec, hlen, hres, hdn, he, hcode, rfl⟩ := defS_some hs
  simp only [progOK, Bool.and_eq_true] at hP
  obtain ⟨hm, hall⟩ := hP
  have hfo := List.all_eq_true.1 hall fn (List.mem_of_getElem? (i := k) (by simpa using hfn))
  unfold funcOK at hfo
  rw [hb] at hfo
  simp only [Bool.and_eq_true, Bool.not_eq_true', codeOK] at hfo
  obtain ⟨⟨_, hrestOK⟩, hname⟩ := hfo
  have hname' : ¬ fn.name = "runtime.NumGoroutine" := beq_eq_false_iff_ne.1 hname
  obtain ⟨cap, ht, hargs⟩ := hD
  simp only at ht hargs
  have hsz : (D.args ++ cap).size = args.length := by have := hargs.length; simpa using this.symm
  refine ⟨cap, D.args ++ cap, ht, by rw [ht]; simp [invoke, callFunc, program, Sem.run, hfn, hname', hb], ?_⟩
  refine callsD_of_wpS hfn hb fun c₀ cs hmode => ?_
  have hopsA : ops = #[o] := Array.toList_inj.1 hops
  subst hopsA
  refine wpS_seq (wpS_region ?_)
  have hrange : List.range (#[o] : Array Oper).size = [0] := rfl
  rw [hrange]
  obtain ⟨hrun, hdst, hguard⟩ := recover_run (P := P) (W := W) (A := { tmps := D.args ++ cap ++ Array.replicate (fn.ntmps - (D.args ++ cap).size) undef, defers := [] }) hrec
  have hwant : Region.wanted o (yielded #[o] (D.args ++ cap ++ Array.replicate (fn.ntmps - (D.args ++ cap).size) undef)) = true := by simp [Region.wanted, hguard]
  have ho0 : (#[o] : Array Oper)[0]? = some o := rfl
  simp only [wpOpsS, ho0, hwant, if_true, hrun]
  have hT0 : trel ρ (tmps0 0 args .leaf) { tmps := D.args ++ cap ++ Array.replicate (fn.ntmps - (D.args ++ cap).size) undef, defers := [] } := by
    intro t
    simp only [tmps0_get]
    rw [Array.getD_eq_getD_getElem?, Array.getElem?_append]
    by_cases ht : t < args.length
    · rw [if_pos (by omega), if_pos (by omega)]
      obtain ⟨b, hb, hr⟩ := hargs.get (i := t) (a := args[t]) (by simp [ht])
      have hb' : (D.args ++ cap)[t]? = some b := by rw [← Array.getElem?_toList]; exact hb
      rw [hb']
      simpa [ht] using hr
    · rw [if_neg (by omega), if_neg (by omega), Array.getElem?_replicate]
      have : (Tr.leaf).get t = undef := rfl
      rw [this]
      split <;> exact vrel_undef
  have hn0 : (D.args ++ cap ++ Array.replicate (fn.ntmps - (D.args ++ cap).size) undef).size = fn.ntmps := by simp at hsz ⊢; omega
  have hdok : dstOK fn.ntmps (some d) = true := by simpa [dstOK] using hdn
  -- the rest, whatever recover gave
  have fin : ∀ (V : Value) (u' : FrameMode), vrel ρ pv V → settle u' = .returning → (Code.wpS P rest (bodyPostS P fn c₀ cs fun e u' W' => (∃ V, e = .returned V) ∧ settle u' = .returning ∧ ∃ ρ', Nx P ρ h W ρ' s.h W')
      (({ tmps := D.args ++ cap ++ Array.replicate (fn.ntmps - (D.args ++ cap).size) undef, defers := [] } : Act).put (some d) V) ({ c₀ with mode := u' } :: cs) W) := by
    intro V u' hV hset
    refine wpS_of_wp (code_ok hcall hsn hm n rest hrestOK hcode hR (trel.put hT0 hn0 hdok hV) (by rw [size_put]; exact hn0) fun A' W' ρ' hN hT' hn' hd' => ?_)
    have hd2 : A'.defers = [] := by rw [hd', defers_put]
    have hrs : (results fn A'.tmps).run P W' = .ok (.tuple #[]) W' := by simp [results, hres]
    have hpost : A'.defers = [] ∧ ∃ u'', ({ c₀ with mode := u' } :: cs) = ({ c₀ with mode := u'' } : Frame) :: cs ∧ ∃ v, (results fn A'.tmps).run P W' = .ok v W' ∧ ((∃ V, Ending.returned v = .returned V) ∧ settle u'' = .returning ∧ ∃ ρ', Nx P ρ h W ρ' s.h W') :=
      ⟨hd2, u', rfl, _, hrs, ⟨_, rfl⟩, hset, ρ', hN⟩
    rcases he with rfl | rfl
    · exact hpost
    · exact hpost
  rcases hu with ⟨rfl, rfl⟩ | ⟨V, rfl, hV⟩
  · have hrd : recoverD (c₀ :: cs) = none := by simp [recoverD, hmode]
    rw [hrd]
    simp only [hdst]
    have hc0 : ({ c₀ with mode := .returning } : Frame) = c₀ := by rw [← hmode]
    have := fin .nilIface .returning (.flat rfl) rfl
    rw [hc0] at this
    exact this
  · have hrd : recoverD (c₀ :: cs) = some (V, { c₀ with mode := .panicking [{ v := V, recovered := true }] } :: cs) := by simp [recoverD, hmode]
    rw [hrd]
    simp only [hdst]
    exact fin V (.panicking [{ v := V, recovered := true }]) hV rfl

/-! ### Calls -/

theorem nx_ret {P : Program} {ρ : Map} {h : SHeap} {W : World} {fn : Func} {tmps : Array Value} {T : Tr} {h2 : SHeap} {W' : World} {ρ' : Map} {vs : List Value} (hN : Nx P ρ h W ρ' h2 W') {A : Act} (hA : A.tmps = tmps) (hT : trel ρ' T A) (hres : resS P ⟨T, h2⟩ fn.results.toList = some vs) :
    ∃ V, (results fn tmps).run P W' = .ok V W' ∧ ∃ ρ', Nx P ρ h W ρ' h2 W' ∧ outR ρ' (.ret (resV vs)) (.returned V) := by
  obtain ⟨V, hV, hr⟩ := results_ok hres hN.rel hT
  rw [hA] at hV
  exact ⟨V, hV, ρ', hN, V, rfl, hr⟩

theorem bodyP_ok {P : Program} (hP : progOK P = true) {pc : PCall} (hpc : POK P pc) (hsn : PSnx pc) (fuel : Nat) : POK P (bodyP P pc fuel) ∧ PSnx (bodyP P pc fuel) := by
  have hP' := hP
  simp only [progOK, Bool.and_eq_true] at hP'
  obtain ⟨hm, hall⟩ := hP'
  have hfOK : ∀ (f : FuncId) (fn : Func) (c : Code), P.funcs[f]? = some fn → fn.body = some c → codeOK P fn.ntmps c = true ∧ (fn.name == "runtime.NumGoroutine") = false := by
    intro f fn c hfn hc
    have := List.all_eq_true.1 hall fn (List.mem_of_getElem? (i := f) (by simpa using hfn))
    unfold funcOK at this
    rw [hc] at this
    simp only [Bool.and_eq_true, Bool.not_eq_true'] at this
    exact this
  -- what an answer comes from
  have key : ∀ f args h o h', bodyP P pc fuel f args h = some (o, h') → ∃ fn c e s, P.funcs[f]? = some fn ∧ fn.body = some c ∧ args.length ≤ fn.ntmps ∧ codeP P pc fuel c ⟨⟨tmps0 0 args .leaf, h⟩, []⟩ = some (e, s) ∧
      (((e = .normal ∨ e = .ret) ∧ s.ds = [] ∧ ∃ vs, resS P s.s fn.results.toList = some vs ∧ o = .ret (resV vs) ∧ h' = s.s.h) ∨
       (∃ v, e = .pan v ∧ s.ds = [] ∧ o = .pan v ∧ h' = s.s.h) ∨
       (∃ k dargs pv vs, s.ds = [(k, dargs)] ∧ ((e = .normal ∨ e = .ret) ∧ pv = .nilIface ∨ e = .pan pv) ∧ defS P (retS pc) fuel k dargs s.s.h pv = some h' ∧ resS P ⟨s.s.T, h'⟩ fn.results.toList = some vs ∧ o = .ret (resV vs))) := by
    intro f args h o h' hs
    unfold bodyP at hs
    split at hs
    · rename_i fn hfn
      split at hs
      · rename_i c hc
        split at hs
        · rename_i hlen
          split at hs
          · rename_i e s hcode
            refine ⟨fn, c, e, s, hfn, hc, hlen, hcode, ?_⟩
            have hn : ∀ (hs : (match s.ds with
                | [] => match resS P s.s fn.results.toList with
                  | some vs => some (Out.ret (resV vs), s.s.h)
                  | none => none
                | [(k, dargs)] => match defS P (retS pc) fuel k dargs s.s.h .nilIface with
                  | some h2 => match resS P ⟨s.s.T, h2⟩ fn.results.toList with
                    | some vs => some (.ret (resV vs), h2)
                    | none => none
                  | none => none
                | _ => none) = some (o, h')), (e = .normal ∨ e = .ret) → (((e = .normal ∨ e = .ret) ∧ s.ds = [] ∧ ∃ vs, resS P s.s fn.results.toList = some vs ∧ o = .ret (resV vs) ∧ h' = s.s.h) ∨
                (∃ v, e = .pan v ∧ s.ds = [] ∧ o = .pan v ∧ h' = s.s.h) ∨
                (∃ k dargs pv vs, s.ds = [(k, dargs)] ∧ ((e = .normal ∨ e = .ret) ∧ pv = .nilIface ∨ e = .pan pv) ∧ defS P (retS pc) fuel k dargs s.s.h pv = some h' ∧ resS P ⟨s.s.T, h'⟩ fn.results.toList = some vs ∧ o = .ret (resV vs))) := by
              intro hs hex
              split at hs
              · rename_i hds
                split at hs
                · rename_i vs hvs
                  cases hs
                  exact .inl ⟨hex, hds, vs, hvs, rfl, rfl⟩
                · cases hs
              · rename_i k dargs hds
                split at hs
                · rename_i h2 hdef
                  split at hs
                  · rename_i vs hvs
                    cases hs
                    exact .inr (.inr ⟨k, dargs, .nilIface, vs, hds, .inl ⟨hex, rfl⟩, hdef, hvs, rfl⟩)
                  · cases hs
                · cases hs
              · cases hs
            cases e with
            | normal => exact hn hs (.inl rfl)
            | ret => exact hn hs (.inr rfl)
            | exit i => cases hs
            | pan v =>
              simp only at hs
              split at hs
              · rename_i hds
                cases hs
                exact .inr (.inl ⟨v, rfl, hds, rfl, rfl⟩)
              · rename_i k dargs hds
                split at hs
                · rename_i h2 hdef
                  split at hs
                  · rename_i vs hvs
                    cases hs
                    exact .inr (.inr ⟨k, dargs, v, vs, hds, .inr rfl, hdef, hvs, rfl⟩)
                  · cases hs
                · cases hs
              · cases hs
          · cases hs
        · cases hs
      · cases hs
    · cases hs
  refine ⟨fun f args h o h' hs => ?_, fun f args h o h' hs => ?_⟩
  · obtain ⟨fn, c, e, s, hfn, hc, hlen, hcode, hout⟩ := key f args h o h' hs
    obtain ⟨hcOK, hname⟩ := hfOK f fn c hfn hc
    refine ⟨⟨fn, c, hfn, hc, hname⟩, fun ρ W ARGS hR hargs => ?_⟩
    have hsz : ARGS.size = args.length := by have := hargs.length; simpa using this.symm
    refine calls_of_wp_defers hfn hc (codeP_ok hpc hsn hm fuel c hcOK hcode hR ?_ (by simp; omega) .nil fun A' W' ρ' hN hT' hn' hd' => ?_)
    · intro t
      simp only [tmps0_get]
      show vrel ρ _ ((ARGS ++ Array.replicate (fn.ntmps - ARGS.size) undef).getD t undef)
      rw [Array.getD_eq_getD_getElem?, Array.getElem?_append]
      by_cases ht : t < args.length
      · rw [if_pos (by omega), if_pos (by omega)]
        obtain ⟨b, hb, hr⟩ := hargs.get (i := t) (a := args[t]) (by simp [ht])
        have hb' : ARGS[t]? = some b := by simpa using hb
        rw [hb']
        simpa [ht] using hr
      · rw [if_neg (by omega), if_neg (by omega), Array.getElem?_replicate]
        have : (Tr.leaf).get t = undef := rfl
        rw [this]
        split <;> exact vrel_undef
    · rcases hout with ⟨he, hds, vs, hvs, rfl, rfl⟩ | ⟨v, rfl, hds, rfl, rfl⟩ | ⟨k, dargs, pv, vs, hds, he, hdef, hvs, rfl⟩
      · rw [hds] at hd'
        have hd0 : A'.defers = [] := by cases hA : A'.defers with
          | nil => rfl
          | cons _ _ => rw [hA] at hd'; cases hd'
        obtain ⟨V, hV, hrest⟩ := nx_ret hN rfl hT' hvs
        have hL : Leaves P fn A'.tmps (fun e W' => ∃ ρ', Nx P ρ h W ρ' s.s.h W' ∧ outR ρ' (.ret (resV vs)) e) A'.defers .returning W' := by
          rw [hd0]
          exact ⟨V, hV, hrest⟩
        rcases he with rfl | rfl
        · exact hL
        · exact hL
      · rw [hds] at hd'
        have hd0 : A'.defers = [] := by cases hA : A'.defers with
          | nil => rfl
          | cons _ _ => rw [hA] at hd'; cases hd'
        intro V hV
        show Leaves P fn A'.tmps _ A'.defers (.panicking _) W'
        rw [hd0]
        exact ⟨ρ', hN, V, rfl, hV⟩
      · rw [hds] at hd'
        obtain ⟨D, hdD, hD⟩ : ∃ D, A'.defers = [D] ∧ dR ρ' (k, dargs) D := by
          cases hA : A'.defers with
          | nil => rw [hA] at hd'; cases hd'
          | cons D L =>
            rw [hA] at hd'
            cases hd' with
            | cons h1 h2 => cases h2; exact ⟨D, rfl, h1⟩
        have go : ∀ (u : FrameMode), u ≠ .run → modeR ρ' pv u → Leaves P fn A'.tmps (fun e W' => ∃ ρ', Nx P ρ h W ρ' h' W' ∧ outR ρ' (.ret (resV vs)) e) A'.defers u W' := by
          intro u hun hu
          rw [hdD]
          obtain ⟨cap, ARGS2, ht, hinv, hcd⟩ := defS_ok hP (retS_ok hpc) (retS_snx hsn) hdef hN.rel hD hu
          refine ⟨hun, .func k, cap, k, ARGS2, ht, hinv, hcd.mono fun e2 u2 W2 ⟨⟨V2, he2⟩, hset, ρ2, hN2⟩ => ?_⟩
          subst he2
          show Leaves P fn A'.tmps _ [] (settle u2) W2
          rw [hset]
          obtain ⟨V, hV, hrest⟩ := nx_ret (hN.trans hR hN2) rfl (hT'.mono hN2.ext) hvs
          exact ⟨V, hV, hrest⟩
        rcases he with ⟨he, rfl⟩ | rfl
        · have hL := go .returning (by intro h; cases h) (.inl ⟨rfl, rfl⟩)
          rcases he with rfl | rfl
          · exact hL
          · exact hL
        · intro V hV
          exact go _ (by intro h; cases h) (.inr ⟨V, rfl, hV⟩)
  · obtain ⟨fn, c, e, s, hfn, hc, hlen, hcode, hout⟩ := key f args h o h' hs
    have h1 := codeP_snx hsn fuel c hcode
    rcases hout with ⟨he, hds, vs, hvs, rfl, rfl⟩ | ⟨v, rfl, hds, rfl, rfl⟩ | ⟨k, dargs, pv, vs, hds, he, hdef, hvs, rfl⟩
    · exact h1
    · exact h1
    · obtain ⟨fn2, id, ops, rest, o2, d, e2, s2, _, _, _, _, _, _, _, _, hcode2, rfl⟩ := defS_some hdef
      have h2 := code_snx (retS_snx hsn) fuel rest hcode2
      exact h1.trans h2

theorem callP_ok {P : Program} (hP : progOK P = true) {base : SCall} (hb : CallOK P base) (hs : SnxOK base) : ∀ fuel, POK P (callP P base fuel) ∧ PSnx (callP P base fuel) := by
  intro fuel
  induction fuel with
  | zero => exact ⟨fun f args h o h' hs => by simp [callP] at hs, fun f args h o h' hs => by simp [callP] at hs⟩
  | succ fuel ih =>
    obtain ⟨i1, i2⟩ := bodyP_ok hP ih.1 ih.2 fuel
    refine ⟨fun f args h o h' hh => ?_, fun f args h o h' hh => ?_⟩
    · simp only [callP] at hh
      split at hh
      · rename_i v h2 hr
        cases hh
        obtain ⟨h1, h2⟩ := hb f args h _ _ hr
        exact ⟨h1, fun ρ W ARGS hR ha => (h2 ρ W ARGS hR ha).mono fun e W' ⟨V, ρ', he, hN, hv⟩ => ⟨ρ', hN, V, he, hv⟩⟩
      · exact i1 f args h o h' hh
    · simp only [callP] at hh
      split at hh
      · rename_i v h2 hr; cases hh; exact hs f args h v _ hr
      · exact i2 f args h o h' hh
end Go.Sx
