/- Panics, deferred calls, recover: the reading with an answer more; it is the machine's. -/
import Derived.Test.YtdnnjkneablfiaaGreatDoorSx16
import Derived.Recover
namespace Go.Sx
open Go
set_option linter.unusedSimpArgs false
set_option linter.unusedVariables false

/-- What a call comes to: it returns, or it panics (with that value). -/
inductive Out where
  | ret (v : Value)
  | pan (v : Value)
abbrev PCall := FuncId → List Value → SHeap → Option (Out × SHeap)
def retS (pc : PCall) : SCall := fun f args h => match pc f args h with
  | some (.ret v, h') => some (v, h')
  | _ => none

inductive PExit where
  | normal | exit (id : Nat) | ret | pan (v : Value)

/-- The state, and what is deferred (the last one first). -/
structure PSt where
  s : St
  ds : List (FuncId × List Value)

/-- Whom a call enters. -/
noncomputable def targetS (P : Program) (T : Tr) (c : Call) : Option (FuncId × List Value) :=
  match c.callee with
  | .value f => match ev T f with
    | .func (.func k) first captured => some (k, first.toList ++ evs T c.args ++ captured.toList)
    | _ => none
  | .invoke r m => match ev T r with
    | .iface t v => match methodS P t v m with
      | some (k, v') => some (k, v' :: evs T c.args)
      | none => none
    | _ => none
  | _ => none

noncomputable def panOp (P : Program) (pc : PCall) (T : Tr) (h : SHeap) : Op → Option (Value × SHeap)
  | .panic x => match ev T x with
    | .iface t v => some (.iface t v, h)
    | _ => none
  | .call c => match targetS P T c with
    | some (k, l) => match pc k l h with
      | some (.pan v, h') => some (v, h')
      | _ => none
    | none => none
  | _ => none

noncomputable def deferOp (T : Tr) : Op → Option (FuncId × List Value)
  | .defer c => match c.callee with
    | .value f => match ev T f with
      | .func (.func k) first captured => some (k, first.toList ++ evs T c.args ++ captured.toList)
      | _ => none
    | _ => none
  | _ => none

noncomputable def seqP (P : Program) (pc : PCall) (ops : Array Oper) : List Oper → PSt → Option (PExit × PSt)
  | [], s => some (.normal, s)
  | o :: rest, s =>
    match stepS P (retS pc) ops o s.s with
    | some s' => seqP P pc ops rest ⟨s', s.ds⟩
    | none =>
      if wantS ops s.s.T o then
        match deferOp s.s.T o.op with
        | some d => seqP P pc ops rest ⟨⟨s.s.T.put o.dst undef, s.s.h⟩, d :: s.ds⟩
        | none => match panOp P pc s.s.T s.s.h o.op with
          | some (v, h') => some (.pan v, ⟨⟨s.s.T, h'⟩, s.ds⟩)
          | none => none
      else none

def loopP (f : PSt → Option (PExit × PSt)) : Nat → PSt → Option (PExit × PSt)
  | 0, _ => none
  | n + 1, s => match f s with
    | some (.normal, s') => loopP f n s'
    | r => r

noncomputable def codeP (P : Program) (pc : PCall) (n : Nat) : Code → PSt → Option (PExit × PSt)
  | .skip, s => some (.normal, s)
  | .region _ ops draw, s => if draw then (seqD P (retS pc) ops s.s.h.next 0 ops.toList s.s).map fun s' => (.normal, ⟨s', s.ds⟩) else seqP P pc ops ops.toList s
  | .seq a b, s => match codeP P pc n a s with
    | some (.normal, s') => codeP P pc n b s'
    | r => r
  | .cond c a b, s => match ev s.s.T c with
    | .bool true => codeP P pc n a s
    | .bool false => codeP P pc n b s
    | _ => none
  | .block id c, s => match codeP P pc n c s with
    | some (.exit i, s') => if i = id then some (.normal, s') else some (.exit i, s')
    | r => r
  | .loop c, s => loopP (codeP P pc n c) n s
  | .exit id, s => some (.exit id, s)
  | .ret, s => some (.ret, s)
  | _, _ => none

def isRecover (o : Oper) : Option Tmp := match o.op, o.dst, o.guard with
  | .call c, some d, none => match c.callee with
    | .builtin .recover => if c.args.isEmpty then some d else none
    | _ => none
  | _, _, _ => none

/-- A deferred call whose first operation is recover; it is given what there is to recover. -/
noncomputable def defS (P : Program) (call : SCall) (n : Nat) (k : FuncId) (args : List Value) (h : SHeap) (pv : Value) : Option SHeap :=
  match P.funcs[k]? with
  | some fn => match fn.body with
    | some (.seq (.region _ ops false) rest) => match ops.toList with
      | [o] => match isRecover o with
        | some d => if args.length ≤ fn.ntmps && fn.results.isEmpty && decide (d < fn.ntmps) then
            match codeS P call n rest ⟨(tmps0 0 args .leaf).set d pv, h⟩ with
            | some (.normal, s) | some (.ret, s) => some s.h
            | _ => none
          else none
        | none => none
      | _ => none
    | _ => none
  | none => none

noncomputable def bodyP (P : Program) (pc : PCall) (n : Nat) : PCall := fun f args h =>
  match P.funcs[f]? with
  | some fn => match fn.body with
    | some c => if args.length ≤ fn.ntmps then
        match codeP P pc n c ⟨⟨tmps0 0 args .leaf, h⟩, []⟩ with
        | some (e, s) => match (match e with | .normal | .ret => some none | .pan v => some (some v) | _ => none) with
          | some none => match s.ds with
            | [] => match resS P s.s fn.results.toList with
              | some vs => some (.ret (resV vs), s.s.h)
              | none => none
            | [(k, dargs)] => match defS P (retS pc) n k dargs s.s.h .nilIface with
              | some h2 => match resS P ⟨s.s.T, h2⟩ fn.results.toList with
                | some vs => some (.ret (resV vs), h2)
                | none => none
              | none => none
            | _ => none
          | some (some v) => match s.ds with
            | [] => some (.pan v, s.s.h)
            | [(k, dargs)] => match defS P (retS pc) n k dargs s.s.h v with
              | some h2 => match resS P ⟨s.s.T, h2⟩ fn.results.toList with
                | some vs => some (.ret (resV vs), h2)
                | none => none
              | none => none
            | _ => none
          | none => none
        | none => none
      else none
    | none => none
  | none => none

noncomputable def callP (P : Program) (base : SCall) : Nat → PCall
  | 0, _, _, _ => none
  | n + 1, f, args, h => match base f args h with
    | some (v, h') => some (.ret v, h')
    | none => bodyP P (callP P base n) n f args h

/-! ### It is the machine's -/

def outR (ρ : Map) : Out → Ending → Prop
  | .ret v, e => ∃ V, e = .returned V ∧ vrel ρ v V
  | .pan v, e => ∃ V, e = .panicked [{ v := V, recovered := false }] ∧ vrel ρ v V
def POK (P : Program) (pc : PCall) : Prop := ∀ f args h o h', pc f args h = some (o, h') →
  (∃ fn c, P.funcs[f]? = some fn ∧ fn.body = some c ∧ (fn.name == "runtime.NumGoroutine") = false) ∧
  ∀ ρ W (ARGS : Array Value), Rel P ρ h W → All2 (vrel ρ) args ARGS.toList → Calls P f ARGS W (fun e W' => ∃ ρ', Nx P ρ h W ρ' h' W' ∧ outR ρ' o e)
def PSnx (pc : PCall) : Prop := ∀ f args h o h', pc f args h = some (o, h') → SNx h h'

theorem retS_some {pc : PCall} {f : FuncId} {args : List Value} {h : SHeap} {v : Value} {h' : SHeap} (hs : retS pc f args h = some (v, h')) : pc f args h = some (.ret v, h') := by
  unfold retS at hs
  split at hs
  · rename_i v' h2 he; cases hs; exact he
  · cases hs
theorem retS_ok {P : Program} {pc : PCall} (h : POK P pc) : CallOK P (retS pc) := fun f args hp v h' hs => by
  obtain ⟨h1, h2⟩ := h f args hp _ _ (retS_some hs)
  exact ⟨h1, fun ρ W ARGS hR ha => (h2 ρ W ARGS hR ha).mono fun e W' ⟨ρ', hN, V, he, hv⟩ => ⟨V, ρ', he, hN, hv⟩⟩
theorem retS_snx {pc : PCall} (h : PSnx pc) : SnxOK (retS pc) := fun f args hp v h' hs => h _ _ _ _ _ (retS_some hs)

section
variable {P : Program} {pc : PCall} {ρ : Map} {h : SHeap} {W : World} {T : Tr} {A : Act}

theorem target_enter {o : Oper} {c : Call} (hop : o.op = .call c) (ho : ∀ x ∈ o.op.operands, vrel ρ (ev T x) (A.eval x)) {k : FuncId} {l : List Value} (ht : targetS P T c = some (k, l))
    (hf : ∃ fn b, P.funcs[k]? = some fn ∧ fn.body = some b ∧ (fn.name == "runtime.NumGoroutine") = false) :
    ∃ ARGS : Array Value, (execOp A.eval o).run P W = .ok (.enter k ARGS) W ∧ All2 (vrel ρ) l ARGS.toList := by
  rw [hop] at ho
  obtain ⟨fn, body, hfn, hbody, hname⟩ := hf
  have hname' : ¬ fn.name = "runtime.NumGoroutine" := beq_eq_false_iff_ne.1 hname
  have hargs := evs_rel (ρ := ρ) (T := T) (A := A) (l := c.args) fun x hx => ho x (by simp [Op.operands, Call.operands, hx])
  unfold targetS at ht
  split at ht
  · rename_i f hc
    split at ht
    · rename_i k' first captured hf
      cases ht
      have hfr := ho f (by simp [Op.operands, Call.operands, hc])
      rw [hf] at hfr
      obtain ⟨f', c', hV, h1, h2⟩ := vrel_func hfr
      refine ⟨f' ++ c.args.map A.eval ++ c', ?_, ?_⟩
      · simp [execOp, hop, resolve, hc, hV, Deferred.ofValue, invoke, callFunc, program, Sem.run, hfn, hname', hbody]
      · simp only [Array.toList_append]
        exact (h1.append hargs).append h2
    · cases ht
  · rename_i r m hc
    split at ht
    · rename_i t u hf
      have hfr := ho r (by simp [Op.operands, Call.operands, hc])
      rw [hf] at hfr
      obtain ⟨U, hV, hu⟩ := vrel_iface hfr
      split at ht
      · rename_i k' u' hm
        cases ht
        obtain ⟨rfl, hmr⟩ := methodS_ok (W := W) (n := P.types.size + Made.depth - 1) hu hm
        have hn : P.types.size + Made.depth - 1 + 1 = P.types.size + Made.depth := Nat.sub_add_cancel (by unfold Made.depth; omega)
        rw [hn] at hmr
        refine ⟨#[U] ++ c.args.map A.eval, ?_, ?_⟩
        · have hget : (#[A.eval r] ++ c.args.map A.eval)[0]? = some (A.eval r) := by rw [Array.getElem?_append_left (by simp)]; rfl
          have hext : (#[A.eval r] ++ c.args.map A.eval).extract 1 (#[A.eval r] ++ c.args.map A.eval).size = c.args.map A.eval := by
            apply Array.toList_inj.1
            simp
            exact List.take_of_length_le (by simp)
          simp only [execOp, hop, resolve, hc, Sem.run_bind, Sem.run_pure, Result.andThen_ok, invoke, hget, hext]
          rw [hV]
          simp [callMethod, Sem.run_bind, hmr, callFunc, hfn, hname', hbody]
        · simp only [Array.toList_append]
          exact .cons hu hargs
      · cases ht
    · cases ht
  · cases ht

/-- What is deferred. -/
def dR (ρ : Map) (d : FuncId × List Value) (D : Deferred) : Prop := ∃ cap, D.target = .fn (.func d.1) cap ∧ All2 (vrel ρ) d.2 (D.args ++ cap).toList
theorem dR.mono {ρ' : Map} {d : FuncId × List Value} {D : Deferred} (hx : ∀ i L, ρ i = some L → ρ' i = some L) (hd : dR ρ d D) : dR ρ' d D := by
  obtain ⟨cap, h1, h2⟩ := hd
  exact ⟨cap, h1, h2.mono fun _ _ h => h.mono hx⟩

def pexQ (Q : Exit → Act → World → Prop) (ρ : Map) (A : Act) (W : World) : PExit → Prop
  | .normal => Q .normal A W
  | .exit i => Q (.exit i) A W
  | .ret => Q .ret A W
  | .pan v => ∀ V, vrel ρ v V → Q (.panic [{ v := V, recovered := false }]) A W

theorem defer_wp {o : Oper} {d : FuncId × List Value} (ho : ∀ x ∈ o.op.operands, vrel ρ (ev T x) (A.eval x)) (hd : deferOp T o.op = some d) {K : Act → World → Prop} {Q : Exit → Act → World → Prop}
    (hK : ∀ D, dR ρ d D → K ({ A with defers := D :: A.defers }.put o.dst undef) W) : o.wp P A W K Q := by
  cases hop : o.op with
  | defer c =>
    rw [hop] at hd ho
    simp only [deferOp] at hd
    have hargs := evs_rel (ρ := ρ) (T := T) (A := A) (l := c.args) fun x hx => ho x (by simp [Op.operands, Call.operands, hx])
    split at hd
    · rename_i f hc
      split at hd
      · rename_i k first captured hf
        cases hd
        have hfr := ho f (by simp [Op.operands, Call.operands, hc])
        rw [hf] at hfr
        obtain ⟨f', c', hV, h1, h2⟩ := vrel_func hfr
        have hrun : (execOp A.eval o).run P W = .ok (.defer { target := .fn (.func k) c', args := f' ++ c.args.map A.eval }) W := by
          simp [execOp, hop, resolve, hc, hV, Deferred.ofValue]
        unfold Oper.wp
        rw [hrun, Oper.upon_defer]
        refine hK _ ⟨c', rfl, ?_⟩
        simp only [Array.toList_append]
        exact (h1.append hargs).append h2
      · cases hd
    · cases hd
  | _ => rw [hop] at hd; simp [deferOp] at hd

theorem pan_wp (hpc : POK P pc) (hR : Rel P ρ h W) {o : Oper} (ho : ∀ x ∈ o.op.operands, vrel ρ (ev T x) (A.eval x)) {v : Value} {h' : SHeap} (hp : panOp P pc T h o.op = some (v, h')) {K : Act → World → Prop} {Q : Exit → Act → World → Prop}
    (hQ : ∀ V W' ρ', Nx P ρ h W ρ' h' W' → vrel ρ' v V → Q (.panic [{ v := V, recovered := false }]) A W') : o.wp P A W K Q := by
  cases hop : o.op with
  | panic x =>
    rw [hop] at hp ho
    simp only [panOp] at hp
    split at hp
    · rename_i t u hx
      cases hp
      have hxr := ho x (by simp [Op.operands])
      rw [hx] at hxr
      obtain ⟨U, hV, hu⟩ := vrel_iface hxr
      have hrun : (execOp A.eval o).run P W = .halt (.panic (.iface t U)) W := by
        simp [execOp, hop, hV, Instr.panic, goPanic]
      unfold Oper.wp
      rw [hrun, Oper.upon_panic]
      exact hQ _ W ρ (Nx.refl hR) (.iface hu)
    · cases hp
  | call c =>
    rw [hop] at hp
    simp only [panOp] at hp
    split at hp
    · rename_i k l ht
      split at hp
      · rename_i v' h2 hcall
        cases hp
        obtain ⟨hfn, hc2⟩ := hpc _ _ _ _ _ hcall
        obtain ⟨ARGS, hrun, hall⟩ := target_enter (W := W) hop ho ht hfn
        unfold Oper.wp
        rw [hrun, Oper.upon_enter]
        refine (hc2 ρ W ARGS hR hall).mono fun e W' ⟨ρ', hN, V, he, hv⟩ => ?_
        subst he
        exact hQ V W' ρ' hN hv
      · cases hp
    · cases hp
  | _ => rw [hop] at hp; simp [panOp] at hp

theorem All2.monoD {ρ' : Map} {ds : List (FuncId × List Value)} {D : List Deferred} (hx : ∀ i L, ρ i = some L → ρ' i = some L) (hd : All2 (dR ρ) ds D) : All2 (dR ρ') ds D := hd.mono fun _ _ h => h.mono hx

theorem seqP_ok (hpc : POK P pc) {ops : Array Oper} {n : Nat} {Q : Exit → Act → World → Prop} : ∀ (l : List Oper) (hok : ∀ o ∈ l, operOK P n o = true) {s s' : PSt} {e : PExit} (hs : seqP P pc ops l s = some (e, s')) {ρ : Map} {A : Act} {W : World}
    (hR : Rel P ρ s.s.h W) (hT : trel ρ s.s.T A) (hn : A.tmps.size = n) (hD : All2 (dR ρ) s.ds A.defers) (hQ : ∀ A' W' ρ', Nx P ρ s.s.h W ρ' s'.s.h W' → trel ρ' s'.s.T A' → A'.tmps.size = n → All2 (dR ρ') s'.ds A'.defers → pexQ Q ρ' A' W' e), wpList P ops Q l A W := by
  intro l
  induction l with
  | nil =>
    intro hok s s' e hs ρ A W hR hT hn hD hQ
    simp [seqP] at hs
    obtain ⟨rfl, rfl⟩ := hs
    exact hQ A W ρ (Nx.refl hR) hT hn hD
  | cons o l ih =>
    intro hok s s' e hs ρ A W hR hT hn hD hQ
    have hoo := hok o (by simp)
    have hl : ∀ o ∈ l, operOK P n o = true := fun x hx => hok x (by simp [hx])
    have hd : dstOK n o.dst = true := by simp only [operOK, Bool.and_eq_true] at hoo; exact hoo.2
    have hop : ∀ x ∈ o.op.operands, vrel ρ (ev s.s.T x) (A.eval x) := fun x hx => by
      simp only [operOK, Bool.and_eq_true] at hoo
      exact ev_rel hR hT (List.all_eq_true.1 hoo.1 x (by simpa using hx))
    simp only [seqP] at hs
    unfold wpList
    rw [want_rel (ops := ops) (T := s.s.T) (ρ := ρ) fun t _ => hT t]
    split at hs
    · rename_i s1 h1
      by_cases hw : wantS ops s.s.T o = true
      · rw [if_pos hw]
        obtain ⟨v, h', hv, rfl⟩ := stepS_some hw h1
        refine .inl (sop_ok (retS_ok hpc) hR hop hv fun V W' ρ' hN hV => ?_)
        refine ih hl hs hN.rel ((hT.mono hN.ext).put hn hd hV) (by rw [size_put]; exact hn) (by rw [defers_put]; exact All2.monoD hN.ext hD) fun A' W'' ρ'' hN' hT' hn' hd' => ?_
        exact hQ A' W'' ρ'' (hN.trans hR hN') hT' hn' hd'
      · rw [if_neg hw]
        unfold stepS at h1
        rw [if_neg hw] at h1
        cases h1
        exact ih hl hs hR (hT.put hn hd vrel_undef) (by rw [size_put]; exact hn) (by rw [defers_put]; exact hD) fun A' W'' ρ'' hN' hT' hn' hd' => hQ A' W'' ρ'' hN' hT' hn' hd'
    · split at hs
      · rename_i hw
        rw [if_pos hw]
        split at hs
        · rename_i d hdo
          refine .inl (defer_wp hop hdo fun D hD1 => ?_)
          refine ih hl hs hR ?_ (by rw [size_put]; exact hn) (by rw [defers_put]; exact .cons hD1 hD) fun A' W'' ρ'' hN' hT' hn' hd' => hQ A' W'' ρ'' hN' hT' hn' hd'
          exact trel.put (A := { A with defers := D :: A.defers }) hT hn hd vrel_undef
        · split at hs
          · rename_i v h' hp
            cases hs
            exact .inl (pan_wp hpc hR hop hp fun V W' ρ' hN hV => hQ A W' ρ' hN (hT.mono hN.ext) hn (All2.monoD hN.ext hD) V hV)
          · cases hs
      · cases hs

theorem codeP_ok (hpc : POK P pc) (hsn : PSnx pc) (hm : P.follows .mixedOrders = true) (fuel : Nat) {n : Nat} : ∀ (c : Code) (hok : codeOK P n c = true) {s s' : PSt} {e : PExit} (hs : codeP P pc fuel c s = some (e, s')) {ρ : Map} {A : Act} {W : World}
    (hR : Rel P ρ s.s.h W) (hT : trel ρ s.s.T A) (hn : A.tmps.size = n) (hD : All2 (dR ρ) s.ds A.defers) {Q : Exit → Act → World → Prop} (hQ : ∀ A' W' ρ', Nx P ρ s.s.h W ρ' s'.s.h W' → trel ρ' s'.s.T A' → A'.tmps.size = n → All2 (dR ρ') s'.ds A'.defers → pexQ Q ρ' A' W' e), c.wp P Q A W := by
  intro c
  induction c with
  | skip =>
    intro hok s s' e hs ρ A W hR hT hn hD Q hQ
    simp [codeP] at hs
    obtain ⟨rfl, rfl⟩ := hs
    exact wp_skip (hQ A W ρ (Nx.refl hR) hT hn hD)
  | region id ops draw =>
    intro hok s s' e hs ρ A W hR hT hn hD Q hQ
    simp only [codeOK, Bool.and_eq_true] at hok
    cases draw with
    | true =>
      simp only [codeP, if_true, Option.map_eq_some_iff, Prod.mk.injEq] at hs
      obtain ⟨s1, h1, rfl, rfl⟩ := hs
      refine draw_ok (retS_ok hpc) (retS_snx hsn) hm (fun j oj hj => List.all_eq_true.1 hok.1 oj ?_) (by simpa using hok.2) h1 hR hT hn fun A' W' ρ' hN hT' hn' hd' => hQ A' W' ρ' hN hT' hn' (by rw [hd']; exact All2.monoD hN.ext hD)
      exact List.mem_of_getElem? (i := j) (by simpa using hj)
    | false =>
      simp only [codeP, Bool.false_eq_true, if_false] at hs
      exact wp_region_list (seqP_ok hpc _ (List.all_eq_true.1 hok.1) hs hR hT hn hD hQ)
  | seq a b iha ihb =>
    intro hok s s' e hs ρ A W hR hT hn hD Q hQ
    simp only [codeOK, Bool.and_eq_true] at hok
    simp only [codeP] at hs
    split at hs
    · rename_i s1 h1
      refine wp_seq (iha hok.1 h1 hR hT hn hD fun A1 W1 ρ1 hN1 hT1 hn1 hd1 => ?_)
      exact ihb hok.2 hs hN1.rel hT1 hn1 hd1 fun A2 W2 ρ2 hN2 hT2 hn2 hd2 => hQ A2 W2 ρ2 (hN1.trans hR hN2) hT2 hn2 hd2
    · rename_i hne
      refine wp_seq (iha hok.1 hs hR hT hn hD fun A1 W1 ρ1 hN1 hT1 hn1 hd1 => ?_)
      have := hQ A1 W1 ρ1 hN1 hT1 hn1 hd1
      cases e with
      | normal => exact absurd hs (hne s')
      | exit id => exact this
      | ret => exact this
      | pan v => exact this
  | cond c a b iha ihb =>
    intro hok s s' e hs ρ A W hR hT hn hD Q hQ
    simp only [codeOK, Bool.and_eq_true] at hok
    have hc := ev_rel hR hT hok.1
    simp only [codeP] at hs
    split at hs
    · rename_i hb
      rw [hb] at hc
      exact wp_cond_true (vrel_bool hc) (iha hok.2.1 hs hR hT hn hD hQ)
    · rename_i hb
      rw [hb] at hc
      exact wp_cond_false (vrel_bool hc) (ihb hok.2.2 hs hR hT hn hD hQ)
    · cases hs
  | block id c ih =>
    intro hok s s' e hs ρ A W hR hT hn hD Q hQ
    simp only [codeOK] at hok
    simp only [codeP] at hs
    split at hs
    · rename_i i s1 h1
      refine wp_block (ih hok h1 hR hT hn hD fun A1 W1 ρ1 hN1 hT1 hn1 hd1 => ?_)
      show Exit.inBlock id Q (.exit i) A1 W1
      unfold Exit.inBlock
      by_cases hi : i = id
      · simp only [hi, if_true] at hs ⊢
        cases hs
        exact hQ A1 W1 ρ1 hN1 hT1 hn1 hd1
      · simp only [hi, if_false] at hs ⊢
        cases hs
        exact hQ A1 W1 ρ1 hN1 hT1 hn1 hd1
    · rename_i hne
      refine wp_block (ih hok hs hR hT hn hD fun A1 W1 ρ1 hN1 hT1 hn1 hd1 => ?_)
      have := hQ A1 W1 ρ1 hN1 hT1 hn1 hd1
      cases e with
      | normal => exact this
      | exit i => exact absurd hs (hne i s')
      | ret => exact this
      | pan v => exact this
  | loop c ih =>
    intro hok s s' e hs ρ A W hR hT hn hD Q hQ
    simp only [codeOK] at hok
    simp only [codeP] at hs
    have key : ∀ (k : Nat) {s : PSt} (hs : loopP (codeP P pc fuel c) k s = some (e, s')) {ρ : Map} {A : Act} {W : World} (hR : Rel P ρ s.s.h W) (hT : trel ρ s.s.T A) (hn : A.tmps.size = n) (hD : All2 (dR ρ) s.ds A.defers)
        (hQ : ∀ A' W' ρ', Nx P ρ s.s.h W ρ' s'.s.h W' → trel ρ' s'.s.T A' → A'.tmps.size = n → All2 (dR ρ') s'.ds A'.defers → pexQ Q ρ' A' W' e), Code.rounds P c Q k A W := by
      intro k
      induction k with
      | zero => intro s hs; simp [loopP] at hs
      | succ k ihk =>
        intro s hs ρ A W hR hT hn hD hQ
        rw [rounds_succ]
        simp only [loopP] at hs
        split at hs
        · rename_i s1 h1
          refine ih hok h1 hR hT hn hD fun A1 W1 ρ1 hN1 hT1 hn1 hd1 => ?_
          exact ihk hs hN1.rel hT1 hn1 hd1 fun A2 W2 ρ2 hN2 hT2 hn2 hd2 => hQ A2 W2 ρ2 (hN1.trans hR hN2) hT2 hn2 hd2
        · rename_i hne
          refine ih hok hs hR hT hn hD fun A1 W1 ρ1 hN1 hT1 hn1 hd1 => ?_
          have := hQ A1 W1 ρ1 hN1 hT1 hn1 hd1
          cases e with
          | normal => exact absurd hs (hne s')
          | exit i => exact this
          | ret => exact this
          | pan v => exact this
    exact wp_loop_rounds fuel (key fuel hs hR hT hn hD hQ)
  | exit id =>
    intro hok s s' e hs ρ A W hR hT hn hD Q hQ
    simp [codeP] at hs
    obtain ⟨rfl, rfl⟩ := hs
    exact wp_exit (hQ A W ρ (Nx.refl hR) hT hn hD)
  | ret =>
    intro hok s s' e hs ρ A W hR hT hn hD Q hQ
    simp [codeP] at hs
    obtain ⟨rfl, rfl⟩ := hs
    exact wp_ret (hQ A W ρ (Nx.refl hR) hT hn hD)
  | _ =>
    intro hok s s' e hs
    simp [codeP] at hs
end
end Go.Sx
