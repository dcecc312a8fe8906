/- A region whose order is open: one operation more. -/
import Derived.Test.YtdnnjkneablfiaaGreatDoorSx11
namespace Go.Sx
open Go
set_option linter.unusedSimpArgs false
set_option linter.unusedVariables false

section
variable {P : Program} {call : SCall} {ops : Array Oper} {S : Nat → St} {n : Nat} {ρ0 : Map} {W0 : World} {D : List Deferred} {listed : Array Bool} {A : Act} {W : World} {ρ : Map} {p : Nat}

theorem Inv.tm' (hr : Run P call ops S) (hI : Inv P ops S n ρ0 W0 D listed A W ρ p) {j : Nat} (hj : j ∈ Region.ready .any ops listed) {oj : Oper} (hoj : ops[j]? = some oj) (hok : operOK P n oj = true)
    {ρ' : Map} (hρ : ∀ i L, ρ i = some L → ρ' i = some L) {v V : Value} (hT : (S (j + 1)).T = (S j).T.put oj.dst v) (hv : vrel (cutm ρ' (S (j + 1)).h.next) v V) :
    ∀ t, ∃ m, m ≤ ops.size ∧ (m = 0 ∨ ∃ o, ops[m - 1]? = some o ∧ o.dst = some t ∧ (listed.setIfInBounds j true).getD (m - 1) false = true) ∧
      (∀ i o, ops[i]? = some o → o.dst = some t → ((listed.setIfInBounds j true).getD i false = true ↔ i < m)) ∧ vrel (cutm ρ' (S m).h.next) ((S m).T.get t) ((A.put oj.dst V).tmps.getD t undef) := by
  intro t
  obtain ⟨hnl, hlt⟩ := hI.unlisted hj
  have hls : j < listed.size := by rw [hI.lsz]; exact hlt
  have hdst : dstOK n oj.dst = true := by simp only [operOK, Bool.and_eq_true] at hok; exact hok.2
  by_cases e : oj.dst = some t
  · refine ⟨j + 1, by omega, .inr ⟨oj, hoj, e, (getD_true_iff hls).2 (.inl rfl)⟩, fun i oi hoi hd => ?_, ?_⟩
    · rw [getD_true_iff hls]
      by_cases hij : i = j
      · subst hij; simp
      · have := hI.writers hr hj hoj (.inr e) hoi hd hij
        constructor
        · rintro (h | h)
          · exact absurd h hij
          · have := this.1 h; omega
        · intro h; exact .inr (this.2 (by omega))
    · rw [hT, Tr.get_put, if_pos e, eval_put A oj.dst V n hI.sz hdst, if_pos e]
      exact hv
  · obtain ⟨m, hm, hm0, hmw, hvm⟩ := hI.tm t
    refine ⟨m, hm, hm0.imp id fun ⟨o, h1, h2, h3⟩ => ⟨o, h1, h2, (getD_true_iff hls).2 (.inr h3)⟩, fun i oi hoi hd => ?_, ?_⟩
    · rw [getD_true_iff hls]
      have hij : i ≠ j := by
        rintro rfl
        rw [hoj] at hoi
        cases hoi
        exact e hd
      rw [← hmw i oi hoi hd]
      exact ⟨fun h => h.resolve_left hij, .inr⟩
    · rw [eval_put A oj.dst V n hI.sz hdst, if_neg e]
      exact hvm.mono (cutm_le hρ _)

/-- An operation that neither writes nor makes anything. -/
theorem Inv.quiet (hr : Run P call ops S) (hI : Inv P ops S n ρ0 W0 D listed A W ρ p) {j : Nat} (hj : j ∈ Region.ready .any ops listed) {oj : Oper} (hoj : ops[j]? = some oj) (hok : operOK P n oj = true)
    (hnw : ¬ WW ops S j) (hnn : ¬ NN ops S j) {W' : World} (hg : Gr W W') {v V : Value} (hT : (S (j + 1)).T = (S j).T.put oj.dst v) (hv : vrel (cutm ρ (S (j + 1)).h.next) v V) :
    Inv P ops S n ρ0 W0 D (listed.setIfInBounds j true) (A.put oj.dst V) W' ρ p := by
  obtain ⟨hnl, hlt⟩ := hI.unlisted hj
  have hls : j < listed.size := by rw [hI.lsz]; exact hlt
  have back : ∀ i, NN ops S i → (listed.setIfInBounds j true).getD i false = true → listed.getD i false = true := fun i hn hl =>
    ((getD_true_iff hls).1 hl).resolve_left fun e => hnn (e ▸ hn)
  refine ⟨by simp [hI.lsz], hI.cl.set hj, hI.ple, ?_, ?_, hI.nx.grow hg, ?_, ?_, ?_, ?_, hI.tm' hr hj hoj hok (fun _ _ h => h) hT hv, by rw [size_put]; exact hI.sz, by rw [defers_put]; exact hI.df⟩
  · intro i hi hwn; exact (getD_true_iff hls).2 (.inr (hI.pw i hi hwn))
  · intro i hi hw hl
    rcases (getD_true_iff hls).1 hl with e | hl
    · exact hnw (e ▸ hw)
    · exact hI.ph i hi hw hl
  · intro id L hid hL
    obtain ⟨i, h1, h2, h3, h4⟩ := hI.dom id L hid hL
    exact ⟨i, h1, h2, (getD_true_iff hls).2 (.inr h3), h4⟩
  · intro i hi hn hl
    obtain ⟨Lc, h1, h2, h3, h4⟩ := hI.ext i hi hn (back i hn hl)
    exact ⟨Lc, h1, h2.grow hg, h3, Nat.lt_of_lt_of_le h4 hg.size⟩
  · intro i hi hn hl; exact hI.dis i hi hn (back i hn hl)
  · intro i hi hl o a id h1 h2 h3 h4
    exact (hI.pend i hi (fun h => hl ((getD_true_iff hls).2 (.inr h))) o a id h1 h2 h3 h4).grow hg

/-- An operation that makes an object. -/
theorem Inv.fresh (hr : Run P call ops S) (hI : Inv P ops S n ρ0 W0 D listed A W ρ p) {j : Nat} (hj : j ∈ Region.ready .any ops listed) {oj : Oper} (hoj : ops[j]? = some oj) (hok : operOK P n oj = true)
    (hnw : ¬ WW ops S j) (hn : NN ops S j) {W' : World} (hg : Gr W W') {L : Loc} (hLb : W.heap.size ≤ L.b) (hLb' : L.b < W'.heap.size)
    (ho : objR P (cutm (upd ρ (S j).h.next L) ((S j).h.next + 1)) W' (S j).h.next ((S (j + 1)).h.get (S j).h.next))
    {v V : Value} (hT : (S (j + 1)).T = (S j).T.put oj.dst v) (hv : vrel (cutm (upd ρ (S j).h.next L) (S (j + 1)).h.next) v V) :
    Inv P ops S n ρ0 W0 D (listed.setIfInBounds j true) (A.put oj.dst V) W' (upd ρ (S j).h.next L) p := by
  obtain ⟨hnl, hlt⟩ := hI.unlisted hj
  have hls : j < listed.size := by rw [hI.lsz]; exact hlt
  have hpj : p ≤ j := by
    rcases Nat.lt_or_ge j p with h | h
    · exact absurd (hI.pw j h (.inr hn)) hnl
    · exact h
  have hnx : (S p).h.next ≤ (S j).h.next := (hr.snx hpj (by omega)).nx
  have hnone : ρ (S j).h.next = none := by
    cases h : ρ (S j).h.next with
    | none => rfl
    | some L' =>
      obtain ⟨i, h1, h2, h3, h4⟩ := hI.dom _ _ hnx h
      have : i ≠ j := fun e => hnl (e ▸ h3)
      exact absurd h4.symm (hr.new_ne h2 hn this)
  have hup : ∀ i L', ρ i = some L' → upd ρ (S j).h.next L i = some L' := fun i L' hi => by
    rw [upd_ne]
    · exact hi
    · rintro rfl; rw [hnone] at hi; cases hi
  have hcut : ∀ m, m ≤ (S j).h.next → cutm (upd ρ (S j).h.next L) m = cutm ρ m := fun m hm => by
    funext id
    unfold cutm
    split
    · rw [upd_ne (by omega)]
    · rfl
  have hblt : ∀ id L', ρ id = some L' → (id < (S p).h.next → live ((S p).h.get id)) → L'.b < W.heap.size := by
    intro id L' hid hlv
    rcases Nat.lt_or_ge id (S p).h.next with h | h
    · obtain ⟨L2, e2, hb⟩ := (hI.nx.rel.obj id).at_ (hlv h)
      rw [cutm_lt h, hid] at e2
      cases e2
      exact hb
    · obtain ⟨i, h1, h2, h3, rfl⟩ := hI.dom id L' h hid
      obtain ⟨Lc, h4, _, _, h5⟩ := hI.ext i h1 h2 h3
      rw [hid] at h4
      cases h4
      exact h5
  refine ⟨by simp [hI.lsz], hI.cl.set hj, hI.ple, ?_, ?_, ?_, ?_, ?_, ?_, ?_, hI.tm' hr hj hoj hok hup hT hv, by rw [size_put]; exact hI.sz, by rw [defers_put]; exact hI.df⟩
  · intro i hi hwn; exact (getD_true_iff hls).2 (.inr (hI.pw i hi hwn))
  · intro i hi hw hl
    rcases (getD_true_iff hls).1 hl with e | hl
    · exact hnw (e ▸ hw)
    · exact hI.ph i hi hw hl
  · rw [hcut _ hnx]; exact hI.nx.grow hg
  · intro id L' hid hL
    by_cases e : id = (S j).h.next
    · exact ⟨j, hpj, hn, (getD_true_iff hls).2 (.inl rfl), e⟩
    · rw [upd_ne e] at hL
      obtain ⟨i, h1, h2, h3, h4⟩ := hI.dom id L' hid hL
      exact ⟨i, h1, h2, (getD_true_iff hls).2 (.inr h3), h4⟩
  · intro i hi hni hl
    by_cases e : i = j
    · subst e
      exact ⟨L, upd_same _ _ _, ho, Nat.le_trans hI.nx.fr.size hLb, hLb'⟩
    · have hl' := ((getD_true_iff hls).1 hl).resolve_left e
      obtain ⟨Lc, h1, h2, h3, h4⟩ := hI.ext i hi hni hl'
      exact ⟨Lc, hup _ _ h1, (h2.grow hg).mono (cutm_le hup _) fun _ _ _ => rfl, h3, Nat.lt_of_lt_of_le h4 hg.size⟩
  · intro i hi hni hl Lc hLc id L' hne hL' hlv
    by_cases e : i = j
    · subst e
      rw [upd_same] at hLc
      cases hLc
      rw [upd_ne hne] at hL'
      have := hblt id L' hL' hlv
      omega
    · have hl' := ((getD_true_iff hls).1 hl).resolve_left e
      have hine := hr.new_ne hni hn e
      rw [upd_ne hine] at hLc
      by_cases e2 : id = (S j).h.next
      · subst e2
        rw [upd_same] at hL'
        cases hL'
        obtain ⟨Lc', h1, _, _, h4⟩ := hI.ext i hi hni hl'
        rw [hLc] at h1
        cases h1
        omega
      · rw [upd_ne e2] at hL'
        exact hI.dis i hi hni hl' Lc hLc id L' hne hL' hlv
  · intro i hi hl o a id h1 h2 h3 h4
    have hij : (S i).h.next ≤ (S j).h.next := (hr.snx (by omega) (by omega)).nx
    rw [hcut _ hij]
    exact (hI.pend i hi (fun h => hl ((getD_true_iff hls).2 (.inr h))) o a id h1 h2 h3 h4).grow hg

/-- The heap as it is in the text's order, up to a place ahead of which all new objects are made. -/
theorem Inv.upto (hr : Run P call ops S) (hR0 : Rel P ρ0 (S 0).h W0) (hI : Inv P ops S n ρ0 W0 D listed A W ρ p) {q : Nat} (hpq : p ≤ q) (hq : q ≤ ops.size) (hw : ∀ i, p ≤ i → i < q → ¬ WW ops S i) (hn : ∀ i, p ≤ i → i < q → NN ops S i → listed.getD i false = true) :
    Nx P ρ0 (S 0).h W0 (cutm ρ (S q).h.next) (S q).h W := by
  induction q with
  | zero => have : p = 0 := by omega
            subst this; exact hI.nx
  | succ q ih =>
    rcases Nat.lt_or_ge q p with h1 | h1
    · have : p = q + 1 := by omega
      subst this; exact hI.nx
    · have ih' := ih h1 (by omega) (fun i h2 h3 => hw i h2 (by omega)) (fun i h2 h3 => hn i h2 (by omega))
      have ho := Array.getElem?_eq_getElem (show q < ops.size by omega)
      have hnw := hw q h1 (by omega)
      cases hr.step q _ ho with
      | off _ e => rw [e]; exact ih'
      | pure v _ _ _ _ e => rw [e]; exact ih'
      | read v a _ _ _ _ e => rw [e]; exact ih'
      | act v h1 f hwant hc _ _ _ _ => exact absurd ⟨_, ho, hwant, .inl (by simp [isAct, hc])⟩ hnw
      | store v a id' ob hwant hc _ _ _ _ _ _ _ => exact absurd ⟨_, ho, hwant, .inr (by simp [isStore, hc])⟩ hnw
      | new v ob hwant hc hwr hs e =>
        have hnn : NN ops S q := ⟨_, ho, hwant, by simp [isNew, hc]⟩
        have hl := hn q h1 (by omega) hnn
        obtain ⟨Lc, hL, hob, hb0, hbW⟩ := hI.ext q h1 hnn hl
        have hpq' : (S p).h.next ≤ (S q).h.next := (hr.snx h1 (by omega)).nx
        have e1 : (S (q + 1)).h = (S q).h.push ob := by rw [e]
        have e2 : (S (q + 1)).h.next = (S q).h.next + 1 := by rw [e1]; rfl
        rw [e2, e1]
        refine ih'.adopt hR0 hL ?_ hb0 fun id L' hid hL' hlv => ?_
        · rw [e1, get_push_new] at hob; exact hob
        · refine hI.dis q h1 hnn hl Lc hL id L' (by omega) hL' fun hidp => ?_
          rw [← hr.same h1 (by omega) hidp fun w h2 h3 hww => absurd hww (hw w h2 (by omega))]
          exact hlv

end
end Go.Sx
