/- A region whose order is open: each operation at hand; the whole region. -/
import Derived.Test.YtdnnjkneablfiaaGreatDoorSx13
namespace Go.Sx
open Go
set_option linter.unusedSimpArgs false
set_option linter.unusedVariables false

section
variable {P : Program} {call : SCall} {ops : Array Oper} {S : Nat → St} {n : Nat} {ρ0 : Map} {W0 : World} {D : List Deferred} {listed : Array Bool} {A : Act} {W : World} {ρ : Map} {p : Nat}

theorem Gr.refl (W : World) : Gr W W := ⟨rfl, rfl, rfl, Nat.le_refl _, fun _ _ => rfl⟩

/-- The heap that a writer meets. -/
theorem Inv.meet (hr : Run P call ops S) (hR0 : Rel P ρ0 (S 0).h W0) (hI : Inv P ops S n ρ0 W0 D listed A W ρ p) {j : Nat} (hj : j ∈ Region.ready .any ops listed) {oj : Oper} (hoj : ops[j]? = some oj)
    (hwant : wantS ops (S j).T oj = true) (hact : isAct oj = true ∨ isStore oj = true) : Nx P ρ0 (S 0).h W0 (cutm ρ (S j).h.next) (S j).h W := by
  obtain ⟨hnl, hlt⟩ := hI.unlisted hj
  have hWW : WW ops S j := ⟨oj, hoj, hwant, hact⟩
  have hpj : p ≤ j := by
    rcases Nat.lt_or_ge j p with h | h
    · exact absurd (hI.pw j h (.inl hWW)) hnl
    · exact h
  have hahead : ∀ i, i < j → (WW ops S i ∨ NN ops S i) → listed.getD i false = true := by
    rintro i hi (⟨oi, hoi, _, h⟩ | ⟨oi, hoi, _, h⟩)
    · exact ready_bit hI.cl hj (hr.dok.s2 j i oj oi hoj hoi hact (by rcases h with h | h; exact .inl h; exact .inr (.inl h)) hi)
    · exact ready_bit hI.cl hj (hr.dok.s2 j i oj oi hoj hoi hact (.inr (.inr h)) hi)
  have hnoW : ∀ i, p ≤ i → i < j → ¬ WW ops S i := fun i h1 h2 hw => hI.ph i h1 hw (hahead i h2 (.inl hw))
  exact hI.upto hr hR0 hpj (by omega) hnoW (fun i h1 h2 hn => hahead i h2 (.inr hn))

/-- Where a number was taken. -/
theorem Run.taken (hr : Run P call ops S) {p j id : Nat} (hpj : p ≤ j) (hj : j ≤ ops.size) (h1 : (S p).h.next ≤ id) (h2 : id < (S j).h.next) :
    ∃ i, p ≤ i ∧ i < j ∧ ((NN ops S i ∧ id = (S i).h.next) ∨ ∃ o, ops[i]? = some o ∧ wantS ops (S i).T o = true ∧ isAct o = true) := by
  induction j with
  | zero => have : p = 0 := by omega
            subst this; omega
  | succ j ih =>
    rcases Nat.lt_or_ge id (S j).h.next with h | h
    · rcases Nat.lt_or_ge j p with h3 | h3
      · have : p = j + 1 := by omega
        subst this; omega
      · obtain ⟨i, hi1, hi2, hi3⟩ := ih h3 (by omega) h
        exact ⟨i, hi1, by omega, hi3⟩
    · have hpj' : p ≤ j := by
        rcases Nat.lt_or_ge j p with h3 | h3
        · have : p = j + 1 := by omega
          subst this; omega
        · exact h3
      have ho := Array.getElem?_eq_getElem (show j < ops.size by omega)
      refine ⟨j, hpj', by omega, ?_⟩
      cases hr.step j _ ho with
      | off _ e => rw [e] at h2; exact absurd h2 (by simp; omega)
      | pure v _ _ _ _ e => rw [e] at h2; exact absurd h2 (by simp; omega)
      | read v a _ _ _ _ e => rw [e] at h2; exact absurd h2 (by simp; omega)
      | new v ob hw hc _ _ e =>
        rw [e] at h2
        have : id < (S j).h.next + 1 := h2
        exact .inl ⟨⟨_, ho, hw, by simp [isNew, hc]⟩, by omega⟩
      | act v h1 f hw hc _ _ _ e => exact .inr ⟨_, ho, hw, by simp [isAct, hc]⟩
      | store v a id' ob _ _ _ _ _ _ _ _ e =>
        rw [e] at h2
        have : id < (S j).h.next := h2
        omega

/-- The object that a read meets. -/
theorem Inv.seen (hr : Run P call ops S) (hR0 : Rel P ρ0 (S 0).h W0) (hI : Inv P ops S n ρ0 W0 D listed A W ρ p) {j : Nat} (hj : j ∈ Region.ready .any ops listed) {oj : Oper} (hoj : ops[j]? = some oj)
    (hwant : wantS ops (S j).T oj = true) {a : Operand} (hc : clsOf oj.op = .read a) {id : Nat} (hid : idOf (ev (S j).T a) = some id) (hidj : id < (S j).h.next) :
    objR P (cutm ρ (S j).h.next) W id ((S j).h.get id) := by
  obtain ⟨hnl, hlt⟩ := hI.unlisted hj
  rcases Nat.lt_or_ge j p with hjp | hpj
  · exact hI.pend j hjp hnl oj a id hoj hwant hc hid
  have hloose : looseRead ops j = true → id < (S 0).h.next := fun hl => by
    cases hr.step j oj hoj with
    | off h _ => rw [hwant] at h; cases h
    | pure v _ hc' _ _ _ => rw [hc] at hc'; cases hc'
    | read v a' _ hc' hlr _ _ => rw [hc] at hc'; cases hc'; exact hlr hl id hid
    | new v ob _ hc' _ _ _ => rw [hc] at hc'; cases hc'
    | act v h1 f _ hc' _ _ _ _ => rw [hc] at hc'; cases hc'
    | store v a id ob _ hc' _ _ _ _ _ _ _ => rw [hc] at hc'; cases hc'
  have hun : ∀ w, w < j → ¬ listed.getD w false = true → unord (Region.before ops) j w = true := by
    intro w hw hlw
    refine unord_mk (by omega) (fun hb => hlw (ready_bit hI.cl hj hb)) (fun hb => ?_)
    have := bit_lt hr.dok w j hb; omega
  have hun' : ∀ w, w < j → ¬ listed.getD w false = true → unord (Region.before ops) w j = true := by
    intro w hw hlw
    refine unord_mk (by omega) (fun hb => ?_) (fun hb => hlw (ready_bit hI.cl hj hb))
    have := bit_lt hr.dok w j hb; omega
  have hkeep : ∀ q, p ≤ q → q ≤ j → id < (S q).h.next → (S j).h.get id = (S q).h.get id := fun q hq hqj hidq => hr.same hqj (by omega) hidq fun w h1 h2 hww => by
    have hl := hI.ph w (by omega) hww
    obtain ⟨ow, how, hww', hact'⟩ := hww
    have hne : j ≠ w := by omega
    exact (hr.shield hne hoj hwant hc hid how hww' hact' (hun w (by omega) hl)).2.2 (Nat.lt_of_lt_of_le hidq (hr.snx h1 (by omega)).nx)
  have hpn : (S p).h.next ≤ (S j).h.next := (hr.snx hpj (by omega)).nx
  have h0p : (S 0).h.next ≤ (S p).h.next := (hr.snx (Nat.zero_le _) (by omega)).nx
  rcases Nat.lt_or_ge id (S p).h.next with h | h
  · rw [hkeep p (Nat.le_refl _) hpj h]
    exact (hI.nx.rel.obj id).mono (cutm_mono hpn) fun _ _ _ => rfl
  · obtain ⟨i, hi1, hi2, hor⟩ := hr.taken hpj (by omega) h hidj
    rcases hor with ⟨hn, rfl⟩ | ⟨o, ho, hw, ha⟩
    · by_cases hl : listed.getD i false = true
      · obtain ⟨Lc, h1, h2, _, _⟩ := hI.ext i hi1 hn hl
        have hlt' := (hr.new1 hn).2.1
        have hij : (S (i + 1)).h.next ≤ (S j).h.next := (hr.snx (by omega) (by omega)).nx
        rw [hkeep (i + 1) (by omega) (by omega) (by omega)]
        exact h2.mono (cutm_mono (by omega)) fun _ _ _ => rfl
      · obtain ⟨o, ho, _, hnw⟩ := hn
        have := hloose (looseRead_of ho (.inr ⟨hnw, hi2⟩) (hun' i hi2 hl))
        omega
    · have hl := hI.ph i hi1 ⟨o, ho, hw, .inl ha⟩
      have := hloose (looseRead_of ho (.inl ha) (hun' i hi2 hl))
      omega

theorem push_inj {h : SHeap} {a b : SObj} (e : h.push a = h.push b) : a = b := by
  have h1 := get_push_new (h := h) (o := a)
  rw [e, get_push_new] at h1
  exact h1.symm

theorem rho_eq {h h' : SHeap} {ρ ρ' : Map} {W W' : World} (hN : Nx P ρ h W ρ' h' W') (hd : ∀ i, h.next ≤ i → ρ i = none) (hn : h'.next = h.next) : ρ' = ρ := by
  funext i
  rcases Nat.lt_or_ge i h.next with hi | hi
  · exact hN.old i hi
  · rw [hd i hi, hN.rel.dom i (by omega)]

/-- One operation at hand. -/
theorem Inv.one (hr : Run P call ops S) (hR0 : Rel P ρ0 (S 0).h W0) (hI : Inv P ops S n ρ0 W0 D listed A W ρ p) {j : Nat} (hj : j ∈ Region.ready .any ops listed) {oj : Oper} (hoj : ops[j]? = some oj) (hok : operOK P n oj = true)
    {K : Act → World → Prop} {Q : Exit → Act → World → Prop} (hK : ∀ A' W' ρ' p', Inv P ops S n ρ0 W0 D (listed.setIfInBounds j true) A' W' ρ' p' → K A' W') : wpOp P ops Q j K A W := by
  obtain ⟨hnl, hlt⟩ := hI.unlisted hj
  unfold wpOp
  simp only [hoj]
  rw [want_rel (ops := ops) (T := (S j).T) (ρ := cutm ρ (S j).h.next) fun t ht => hI.slot hr hj hoj ht]
  have hdomj : ∀ i, (S j).h.next ≤ i → cutm ρ (S j).h.next i = none := fun i hi => by unfold cutm; rw [if_neg (by omega)]
  have hglobj := hI.glob hr hR0 (j := j) (by omega)
  have hopd := hI.operand hr hR0 hj hoj hok
  have hdead : ∀ f, Rel P (cutm ρ (S j).h.next) (deadH (S j).h.next f) W := fun f => rel_dead hdomj hglobj
  have hstep := hr.step j oj hoj
  by_cases hw : wantS ops (S j).T oj = true
  · rw [if_pos hw]
    refine .inl ?_
    cases hstep with
    | off h _ => rw [hw] at h; cases h
    | pure v _ hc hm hs e =>
      obtain ⟨_, hall⟩ := sop_pure hc hm hs
      refine sop_ok hr.ok (hdead 0) hopd (hall (deadH (S j).h.next 0)) fun V W' ρ' hN hv => ?_
      have e1 : ρ' = cutm ρ (S j).h.next := rho_eq hN hdomj rfl
      subst e1
      have hnw : ¬ WW ops S j := by rintro ⟨o, ho, _, h⟩; rw [hoj] at ho; cases ho; simp [isAct, isStore, hc] at h
      have hnn : ¬ NN ops S j := by rintro ⟨o, ho, _, h⟩; rw [hoj] at ho; cases ho; simp [isNew, hc] at h
      refine hK _ _ ρ p (hI.quiet hr hj hoj hok hnw hnn (hN.fr.gr fun i => by rw [get_deadH]; exact id) (v := v) (V := V) (by rw [e]) (by rw [e]; exact hv))
    | read v a _ hc hlr hs e =>
      obtain ⟨_, hall⟩ := sop_read hc hs
      have hnw : ¬ WW ops S j := by rintro ⟨o, ho, _, h⟩; rw [hoj] at ho; cases ho; simp [isAct, isStore, hc] at h
      have hnn : ¬ NN ops S j := by rintro ⟨o, ho, _, h⟩; rw [hoj] at ho; cases ho; simp [isNew, hc] at h
      have key : ∃ h2 : SHeap, h2.next = (S j).h.next ∧ Rel P (cutm ρ (S j).h.next) h2 W ∧ (∀ i, wr (h2.get i) → h2.floor ≤ i → False) ∧ ∀ id, idOf (ev (S j).T a) = some id → h2.get id = (S j).h.get id := by
        cases hid : idOf (ev (S j).T a) with
        | none => exact ⟨deadH (S j).h.next 0, rfl, hdead 0, fun i hw => by rw [get_deadH] at hw; exact hw.elim, fun id h => by cases h⟩
        | some id =>
          by_cases hidj : id < (S j).h.next
          · refine ⟨(deadH (S j).h.next (S j).h.next).put id ((S j).h.get id), rfl, rel_one hidj (hI.seen hr hR0 hj hoj hw hc hid hidj) hdomj hglobj, fun i hw hf => ?_, fun id' h => ?_⟩
            · rw [get_oneH hidj] at hw
              split at hw
              · rename_i e; subst e
                have : (S j).h.next ≤ id := hf
                omega
              · exact hw.elim
            · cases h; rw [get_oneH hidj, if_pos rfl]
          · exact ⟨deadH (S j).h.next 0, rfl, hdead 0, fun i hw => by rw [get_deadH] at hw; exact hw.elim, fun id' h => by cases h; rw [get_deadH, get_ge (by omega)]⟩
      obtain ⟨h2, e2, hR2, hno, hget⟩ := key
      refine sop_ok hr.ok hR2 hopd (hall h2 hget) fun V W' ρ' hN hv => ?_
      have e1 : ρ' = cutm ρ (S j).h.next := rho_eq hN (by rw [e2]; exact hdomj) rfl
      subst e1
      have hg : Gr W W' := ⟨hN.fr.os, hN.fr.tape, hN.fr.output, hN.fr.size, fun b hb => hN.fr.blk b hb fun i _ hw hf => absurd hf fun hf => hno i hw hf⟩
      refine hK _ _ ρ p (hI.quiet hr hj hoj hok hnw hnn hg (v := v) (V := V) (by rw [e]) (by rw [e]; exact hv))
    | new v ob _ hc hwr hs e =>
      obtain ⟨o', _, he, hall⟩ := sop_new hc hs
      have := push_inj he
      subst this
      have hnw : ¬ WW ops S j := by rintro ⟨o, ho, _, h⟩; rw [hoj] at ho; cases ho; simp [isAct, isStore, hc] at h
      have hnn : NN ops S j := ⟨oj, hoj, hw, by simp [isNew, hc]⟩
      refine sop_ok hr.ok (hdead 0) hopd (hall (deadH (S j).h.next 0) rfl) fun V W' ρ' hN hv => ?_
      have hg : Gr W W' := hN.fr.gr fun i => by rw [get_deadH]; exact id
      have hob := hN.rel.obj (S j).h.next
      have hgn : ((deadH (S j).h.next 0).push ob).get (S j).h.next = ob := get_push_new (h := deadH (S j).h.next 0)
      rw [hgn] at hob
      obtain ⟨L, hL, hLb⟩ := hob.at_ hwr.live
      have hLn : W.heap.size ≤ L.b := by
        rcases hN.own (S j).h.next L (Nat.le_refl _) (by rw [hgn]; exact hwr.live) hL with h | ⟨k, L0, hk, _⟩
        · exact h
        · rw [get_deadH] at hk; exact hk.elim
      have e1 : ρ' = cutm (upd ρ (S j).h.next L) ((S j).h.next + 1) := by
        funext i
        unfold cutm
        by_cases h1 : i < (S j).h.next
        · rw [if_pos (by omega), upd_ne (by omega), hN.old i h1, cutm_lt h1]
        · by_cases h2 : i = (S j).h.next
          · subst h2; rw [if_pos (by omega), upd_same, hL]
          · rw [if_neg (by omega)]
            exact hN.rel.dom i (by show (S j).h.next + 1 ≤ i; omega)
      subst e1
      have hnext : (S (j + 1)).h.next = (S j).h.next + 1 := by rw [e]; rfl
      have hgetn : (S (j + 1)).h.get (S j).h.next = ob := by rw [e]; exact get_push_new
      refine hK _ _ _ p (hI.fresh hr hj hoj hok hnw hnn hg hLn hLb (by rw [hgetn]; exact hob) (v := v) (V := V) (by rw [e]) (by rw [hnext]; exact hv))
    | act v h1 f _ hc hf hl hs e =>
      have ha : isAct oj = true := by simp [isAct, hc]
      have hup := hI.meet hr hR0 hj hoj hw (.inl ha)
      have hs' : isStore oj ≠ true := by simp [isStore, hc]
      refine sop_ok hr.ok (hup.rel.fl f) hopd hs fun V W' ρ' hN hv => ?_
      have hN' := hN.unfl hf
      have e1 : (S (j + 1)).h = h1.fl (S j).h.floor := by rw [e]
      obtain ⟨ρ2, hI2⟩ := hI.act hr hR0 hj hoj hok hw (.inl ha) (by rw [e1]; exact hN') (fun id L hL hlv hca _ => by
        obtain ⟨hla, hst⟩ := hca ha
        obtain ⟨L2, e2, hb⟩ := (hup.rel.obj id).at_ hlv
        rw [hL] at e2
        cases e2
        refine hN.fr.blk _ hb fun i L' hwi hfi hL' => ?_
        have hfl : f ≤ i := hfi
        have := hl hla
        exact hup.rel.inj i id L' L hwi hlv (by omega) hL' hL) (v := v) (V := V) (by rw [e]) hv
      exact hK _ _ ρ2 _ hI2
    | store v a id ob _ hc hid hall h1 h2 hor hs e =>
      have hst : isStore oj = true := by simp [isStore, hc]
      have hna : isAct oj ≠ true := by simp [isAct, hc]
      have hup := hI.meet hr hR0 hj hoj hw (.inr hst)
      obtain ⟨a', id', ob', hor', hid', he, hlt', hfl', hwr', hall'⟩ := sop_store hc hs
      have ha : a' = a := by
        rcases hor with ⟨_, _, e⟩ | ⟨_, _, _, e | e⟩ <;> rcases hor' with ⟨_, _, e'⟩ | ⟨_, _, _, e' | e'⟩ <;> rw [e] at e' <;> cases e' <;> rfl
      subst ha
      rw [hid] at hid'
      cases hid'
      have hob : ob' = ob := by
        have := congrArg (fun h : SHeap => h.get id) he
        simp only [get_put_same hup.rel.len hlt'] at this
        exact this.symm
      subst hob
      obtain ⟨L, hL, hLW⟩ := (hup.rel.obj id).at_ hwr'.live
      have hRo : Rel P (cutm ρ (S j).h.next) ((deadH (S j).h.next (S j).h.floor).put id ((S j).h.get id)) W := rel_one hlt' (hup.rel.obj id) hdomj hglobj
      refine sop_ok hr.ok hRo hopd (hall' _ (by rw [get_oneH hlt', if_pos rfl]) rfl) fun V W' ρ' hN hv => ?_
      have e1 : ρ' = cutm ρ (S j).h.next := rho_eq hN hdomj rfl
      subst e1
      have hblk : ∀ b, b < W.heap.size → b ≠ L.b → W'.heap[b]? = W.heap[b]? := fun b hb hne => hN.fr.blk b hb fun i L' hwi _ hL' => by
        rw [get_oneH hlt'] at hwi
        split at hwi
        · rename_i e; subst e; rw [hL] at hL'; cases hL'; exact Ne.symm hne
        · exact hwi.elim
      have hobn := hN.rel.obj id
      rw [get_put_same (len_put (len_deadH _ _)) hlt'] at hobn
      have hN2 := nx_put hup.rel hwr' h2 hL hN.fr.os hN.fr.tape hN.fr.output hN.fr.size hblk hobn
      have e2 : (S (j + 1)).h = (S j).h.put id ob' := by rw [e]
      obtain ⟨ρ2, hI2⟩ := hI.act hr hR0 hj hoj hok hw (.inr hst) (by rw [e2]; exact hN2) (fun id0 L0 hL0 hlv _ hcs => by
        obtain ⟨L2, e3, hb⟩ := (hup.rel.obj id0).at_ hlv
        rw [hL0] at e3
        cases e3
        refine hblk _ hb ?_
        have hne := hcs hst id hall
        exact Ne.symm (hup.rel.inj id id0 L L0 hwr' hlv (Ne.symm hne) hL hL0)) (v := v) (V := V) (by rw [e]) hv
      exact hK _ _ ρ2 _ hI2
  · rw [if_neg hw]
    cases hstep with
    | off _ e =>
      have hnw : ¬ WW ops S j := by rintro ⟨o, ho, h, _⟩; rw [hoj] at ho; cases ho; exact hw h
      have hnn : ¬ NN ops S j := by rintro ⟨o, ho, h, _⟩; rw [hoj] at ho; cases ho; exact hw h
      exact hK _ _ ρ p (hI.quiet hr hj hoj hok hnw hnn (Gr.refl W) (v := undef) (V := undef) (by rw [e]) vrel_undef)
    | pure v h _ _ _ _ => exact absurd h hw
    | read v a h _ _ _ _ => exact absurd h hw
    | new v ob h _ _ _ _ => exact absurd h hw
    | act v h1 f h _ _ _ _ _ => exact absurd h hw
    | store v a id ob h _ _ _ _ _ _ _ _ => exact absurd h hw

/-- All listed. -/
theorem Inv.done (hr : Run P call ops S) (hR0 : Rel P ρ0 (S 0).h W0) (hI : Inv P ops S n ρ0 W0 D listed A W ρ p) (hall : ∀ i, i < ops.size → listed.getD i false = true) :
    Nx P ρ0 (S 0).h W0 (cutm ρ (S ops.size).h.next) (S ops.size).h W ∧ trel (cutm ρ (S ops.size).h.next) (S ops.size).T A := by
  refine ⟨hI.upto hr hR0 hI.ple (Nat.le_refl _) (fun i h1 h2 hw => hI.ph i h1 hw (hall i h2)) (fun i _ h2 _ => hall i h2), fun t => ?_⟩
  obtain ⟨m, hm, _, hmw, hv⟩ := hI.tm t
  rw [hr.Tsame hm (Nat.le_refl _) fun i o h1 h2 ho hd => ?_]
  · exact hv.mono (cutm_mono (hr.snx hm (Nat.le_refl _)).nx)
  · have := (hmw i o ho hd).1 (hall i h2)
    omega

theorem ready_nil {ops : Array Oper} (hD : DOK ops) {listed : Array Bool} (hs : listed.size = ops.size) (hn : Region.ready .any ops listed = []) : ∀ i, i < ops.size → listed.getD i false = true := by
  intro i
  induction i using Nat.strongRecOn with
  | _ i ih =>
    intro hi
    cases hl : listed.getD i false with
    | true => rfl
    | false =>
      have ho := Array.getElem?_eq_getElem hi
      have : i ∈ Region.ready .any ops listed := mem_ready.2 ⟨by
        have hl' : i < listed.size := by omega
        simp [hl'] at hl ⊢
        exact hl, ops[i], ho, fun e he hb => ih e.on (hD.edge i _ ho e he hb) (Nat.lt_trans (hD.edge i _ ho e he hb) hi)⟩
      rw [hn] at this
      cases this

theorem cnt_set {listed : Array Bool} {j k : Nat} (hj : j < listed.size) (hl : listed.getD j false = false) (hc : listed.toList.count false ≤ k + 1) : (listed.setIfInBounds j true).toList.count false ≤ k := by
  rw [Array.toList_setIfInBounds, List.count_set (by simpa using hj)]
  have : listed.toList[j]'(by simpa using hj) = false := by simpa [hj] using hl
  simp [this]
  simp at hc
  omega

theorem Inv.any (hr : Run P call ops S) (hR0 : Rel P ρ0 (S 0).h W0) (hok : ∀ (j : Nat) oj, ops[j]? = some oj → operOK P n oj = true) {Q : Exit → Act → World → Prop}
    (hQ : ∀ A W ρ', Nx P ρ0 (S 0).h W0 ρ' (S ops.size).h W → trel ρ' (S ops.size).T A → A.tmps.size = n → A.defers = D → Q .normal A W) :
    ∀ (fuel : Nat) (listed : Array Bool) (A : Act) (W : World) (ρ : Map) (p : Nat), listed.toList.count false ≤ fuel → Inv P ops S n ρ0 W0 D listed A W ρ p → wpAny P .any ops Q fuel listed A W := by
  intro fuel
  induction fuel with
  | zero =>
    intro listed A W ρ p hc hI
    have hall : ∀ i, i < ops.size → listed.getD i false = true := fun i hi => by
      cases hl : listed.getD i false with
      | true => rfl
      | false =>
        have hi' : i < listed.size := by rw [hI.lsz]; exact hi
        have h0 : listed.toList.count false = 0 := by omega
        have hmem : false ∈ listed.toList := by
          have : listed[i] = false := by simpa [hi'] using hl
          rw [← this]
          simp
        exact absurd hmem (List.count_eq_zero.1 h0)
    refine ⟨?_, ?_⟩
    · cases hn : Region.ready .any ops listed with
      | nil => rfl
      | cons i r =>
        have hi : i ∈ Region.ready .any ops listed := by rw [hn]; simp
        obtain ⟨h1, h2⟩ := hI.unlisted hi
        exact absurd (hall i h2) h1
    · obtain ⟨h1, h2⟩ := hI.done hr hR0 hall
      exact hQ _ _ _ h1 h2 hI.sz hI.df
  | succ fuel ih =>
    intro listed A W ρ p hc hI
    refine ⟨fun hn => ?_, fun i hi => ?_⟩
    · obtain ⟨h1, h2⟩ := hI.done hr hR0 (ready_nil hr.dok hI.lsz hn)
      exact hQ _ _ _ h1 h2 hI.sz hI.df
    · obtain ⟨hnl, hlt⟩ := hI.unlisted hi
      have ho := Array.getElem?_eq_getElem hlt
      exact hI.one hr hR0 hi ho (hok _ _ ho) fun A' W' ρ' p' hI' => ih _ _ _ _ _ (cnt_set (by rw [hI.lsz]; exact hlt) (by simpa using hnl) hc) hI'

theorem Inv.start (hR0 : Rel P ρ0 (S 0).h W0) (hT : trel ρ0 (S 0).T A) (hn : A.tmps.size = n) : Inv P ops S n ρ0 W0 A.defers (Array.replicate ops.size false) A W0 ρ0 0 := by
  have hcut : cutm ρ0 (S 0).h.next = ρ0 := by
    funext i
    unfold cutm
    split
    · rfl
    · rename_i h; exact (hR0.dom i (by omega)).symm
  have hno : ∀ i, ¬ (Array.replicate ops.size false).getD i false = true := fun i => by
    rw [Array.getD_eq_getD_getElem?, Array.getElem?_replicate]
    split <;> simp
  refine ⟨by simp, fun j o hl => absurd hl (hno j), Nat.zero_le _, fun i hi => absurd hi (by omega), fun i _ _ => hno i, by rw [hcut]; exact Nx.refl hR0, fun id L h1 h2 => ?_, fun i _ _ hl => absurd hl (hno i), fun i _ _ hl => absurd hl (hno i),
    fun j hj => absurd hj (by omega), fun t => ⟨0, Nat.zero_le _, .inl rfl, fun i o _ _ => ⟨fun h => absurd h (hno i), fun h => by omega⟩, by rw [hcut]; exact hT t⟩, hn, rfl⟩
  rw [hR0.dom id h1] at h2
  cases h2

end

/-- A region whose order is open. -/
theorem draw_ok {P : Program} {call : SCall} (hcall : CallOK P call) (hsn : ∀ f args h v h', call f args h = some (v, h') → SNx h h') (hm : P.follows .mixedOrders = true) {id : Nat} {ops : Array Oper} {n : Nat}
    (hok : ∀ (j : Nat) oj, ops[j]? = some oj → operOK P n oj = true) (hd : drawOK ops = true) {s s' : St} (hs : seqD P call ops s.h.next 0 ops.toList s = some s') {ρ : Map} {A : Act} {W : World} (hR : Rel P ρ s.h W) (hT : trel ρ s.T A) (hn : A.tmps.size = n)
    {Q : Exit → Act → World → Prop} (hQ : ∀ A' W' ρ', Nx P ρ s.h W ρ' s'.h W' → trel ρ' s'.T A' → A'.tmps.size = n → A'.defers = A.defers → Q .normal A' W') : (Code.region id ops true).wp P Q A W := by
  obtain ⟨S, h0, h1, hstep⟩ := seqD_trace _ _ _ _ hs
  simp only [Nat.zero_add, Array.length_toList] at h1 hstep
  have hr : Run P call ops S := ⟨hsn, hcall, drawOK_spec hd, fun k o ho => by
    have := hstep k o (by simpa using ho)
    rw [← h0] at this
    exact stepK hsn this⟩
  refine wp_region_any hm ?_
  have hg : Gr W { W with drawn := W.drawn + 1 } := ⟨rfl, rfl, rfl, Nat.le_refl _, fun _ _ => rfl⟩
  have hR' : Rel P ρ (S 0).h { W with drawn := W.drawn + 1 } := by rw [h0]; exact hR.grow hg
  refine Inv.any hr hR' hok (D := A.defers) (n := n) (fun A' W' ρ' hN hT' hn' hd' => hQ A' W' ρ' ?_ ?_ hn' hd') _ _ _ _ ρ 0 ?_ (Inv.start hR' (by rw [h0]; exact hT) hn)
  · rw [← h1]
    have hN0 : Nx P ρ s.h W ρ s.h { W with drawn := W.drawn + 1 } := (Nx.refl hR).grow hg
    rw [h0] at hN
    exact hN0.trans hR hN
  · rw [← h1]; exact hT'
  · rw [Array.toList_replicate, List.count_replicate]
    simp

end Go.Sx
