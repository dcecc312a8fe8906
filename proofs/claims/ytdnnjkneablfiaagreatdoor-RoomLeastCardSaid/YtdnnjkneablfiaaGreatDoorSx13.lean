/- A region whose order is open: an operation that writes; the whole region. -/
import Derived.Test.YtdnnjkneablfiaaGreatDoorSx12
namespace Go.Sx
open Go
set_option linter.unusedSimpArgs false
set_option linter.unusedVariables false

section
variable {P : Program} {call : SCall} {ops : Array Oper} {S : Nat → St} {n : Nat} {ρ0 : Map} {W0 : World} {D : List Deferred} {listed : Array Bool} {A : Act} {W : World} {ρ : Map} {p : Nat}

theorem isRead_of {o : Oper} {a : Operand} (h : clsOf o.op = .read a) : isRead o = true := by simp [isRead, h]

theorem unord_mk {b : Array Nat} {i j : Nat} (hne : i ≠ j) (h1 : ¬ (b.getD i 0).testBit j = true) (h2 : ¬ (b.getD j 0).testBit i = true) : unord b i j = true := by
  simp only [unord, Bool.and_eq_true, bne_iff_ne, ne_eq, Bool.not_eq_true']
  exact ⟨⟨hne, by simpa using h1⟩, by simpa using h2⟩

theorem mem_zip {ops : Array Oper} {i : Nat} {o : Oper} (h : ops[i]? = some o) : (o, i) ∈ ops.toList.zipIdx := by
  rw [List.mk_mem_zipIdx_iff_getElem?]
  simpa using h

theorem looseRead_of {ops : Array Oper} {i j : Nat} {o : Oper} (ho : ops[j]? = some o) (h : isAct o = true ∨ (isNew o = true ∧ j < i)) (hu : unord (Region.before ops) j i = true) : looseRead ops i = true := by
  unfold looseRead
  simp only [List.any_eq_true]
  refine ⟨(o, j), mem_zip ho, ?_⟩
  simp only [Bool.and_eq_true, Bool.or_eq_true, decide_eq_true_eq]
  exact ⟨h, hu⟩
theorem looseAct_of {ops : Array Oper} {i j : Nat} {o : Oper} (ho : ops[i]? = some o) (h : isRead o = true) (hu : unord (Region.before ops) i j = true) : looseAct ops j = true := by
  unfold looseAct
  simp only [List.any_eq_true]
  exact ⟨(o, i), mem_zip ho, by simp only [Bool.and_eq_true]; exact ⟨h, hu⟩⟩
theorem looseReads_of {ops : Array Oper} {i j : Nat} {o : Oper} {a : Operand} (ho : ops[i]? = some o) (h : clsOf o.op = .read a) (hij : i < j) (hu : unord (Region.before ops) i j = true) : a ∈ looseReads ops j := by
  unfold looseReads
  simp only [List.mem_filterMap]
  exact ⟨(o, i), mem_zip ho, by simp [h, hij, hu]⟩

/-- What a read meets is not written by what stands in no order with it. -/
theorem Run.shield (hr : Run P call ops S) {i w : Nat} (hiw : i ≠ w) {oi : Oper} {a : Operand} {id : Nat} (hoi : ops[i]? = some oi) (hwi : wantS ops (S i).T oi = true) (hc : clsOf oi.op = .read a) (hid : idOf (ev (S i).T a) = some id)
    {ow : Oper} (how : ops[w]? = some ow) (hww : wantS ops (S w).T ow = true) (hact : isAct ow = true ∨ isStore ow = true) (hu : unord (Region.before ops) i w = true) :
    (isAct ow = true → id < (S 0).h.next ∧ looseAct ops w = true) ∧ (isStore ow = true → i < w ∧ ∀ id', (∀ x ∈ looseReads ops w, idOf (ev (S w).T x) ≠ some id') → id ≠ id') ∧
    (id < (S w).h.next → (S (w + 1)).h.get id = (S w).h.get id) := by
  have hu' : unord (Region.before ops) w i = true := by
    simp only [unord, Bool.and_eq_true, bne_iff_ne, ne_eq, Bool.not_eq_true'] at hu ⊢
    exact ⟨⟨Ne.symm hu.1.1, hu.2⟩, hu.1.2⟩
  have hw : w < ops.size := (Array.getElem?_eq_some_iff.1 how).1
  have hid0 : isAct ow = true → id < (S 0).h.next := fun ha => by
    have hl := looseRead_of how (.inl ha) hu'
    cases hr.step i oi hoi with
    | off h _ => rw [hwi] at h; cases h
    | pure v _ hc' _ _ _ => rw [hc] at hc'; cases hc'
    | read v a' _ hc' hlr _ _ => rw [hc] at hc'; cases hc'; exact hlr hl id hid
    | new v ob _ hc' _ _ _ => rw [hc] at hc'; cases hc'
    | act v h1 f _ hc' _ _ _ _ => rw [hc] at hc'; cases hc'
    | store v a id ob _ hc' _ _ _ _ _ _ _ => rw [hc] at hc'; cases hc'
  have hst : isStore ow = true → i < w ∧ ∀ id', (∀ x ∈ looseReads ops w, idOf (ev (S w).T x) ≠ some id') → id ≠ id' := fun hs => by
    have hlt : i < w := by
      rcases Nat.lt_or_gt_of_ne hiw with h | h
      · exact h
      · have := hr.dok.s4 w i ow oi how hoi hs (isRead_of hc) h
        simp only [unord, Bool.and_eq_true, bne_iff_ne, ne_eq, Bool.not_eq_true'] at hu
        rw [this] at hu
        simp at hu
    refine ⟨hlt, fun id' hall e => ?_⟩
    subst e
    have hmem := looseReads_of hoi hc hlt hu
    refine hall a hmem ?_
    cases a with
    | tmp t =>
      have : (S w).T.get t = (S i).T.get t := hr.Tsame (by omega) (by omega) fun m o h1 h2 ho => hr.dok.s5 w i m ow oi o t how hoi ho hs hlt hc hu h1 h2
      show idOf ((S w).T.get t) = some id
      rw [this]
      exact hid
    | const v => exact hid
    | global g => exact hid
    | func f => exact hid
  refine ⟨fun ha => ⟨hid0 ha, looseAct_of hoi (isRead_of hc) hu⟩, hst, fun hlt => ?_⟩
  cases hr.step w ow how with
  | off h _ => rw [hww] at h; cases h
  | pure v _ hc' _ _ _ => simp [isAct, isStore, hc'] at hact
  | read v a' _ hc' hlr _ _ => simp [isAct, isStore, hc'] at hact
  | new v ob _ hc' _ _ _ => simp [isAct, isStore, hc'] at hact
  | act v h1 f _ hc' hf hl hs e =>
    have ha : isAct ow = true := by simp [isAct, hc']
    have hsf := hl (looseAct_of hoi (isRead_of hc) hu)
    have hk := (sop_act hr.sn hc' hs).keep id hlt (Nat.lt_of_lt_of_le (hid0 ha) hsf)
    rw [e]
    exact hk
  | store v a' id' ob _ hc' hid' hall h1 h2 _ _ e =>
    have hs : isStore ow = true := by simp [isStore, hc']
    have hne := (hst hs).2 id' hall
    rw [e]
    exact get_put_ne h1 (Ne.symm hne)

/-- An operation that writes: given how the world goes on, the rest. -/
theorem Inv.act (hr : Run P call ops S) (hR0 : Rel P ρ0 (S 0).h W0) (hI : Inv P ops S n ρ0 W0 D listed A W ρ p) {j : Nat} (hj : j ∈ Region.ready .any ops listed) {oj : Oper} (hoj : ops[j]? = some oj) (hok : operOK P n oj = true)
    (hwant : wantS ops (S j).T oj = true) (hact : isAct oj = true ∨ isStore oj = true) {ρ' : Map} {W' : World}
    (hN : Nx P (cutm ρ (S j).h.next) (S j).h W ρ' (S (j + 1)).h W')
    (hblk : ∀ id L, cutm ρ (S j).h.next id = some L → live ((S j).h.get id) →
      (isAct oj = true → looseAct ops j = true ∧ id < (S 0).h.next) → (isStore oj = true → ∀ id', (∀ x ∈ looseReads ops j, idOf (ev (S j).T x) ≠ some id') → id ≠ id') → W'.heap[L.b]? = W.heap[L.b]?)
    {v V : Value} (hT : (S (j + 1)).T = (S j).T.put oj.dst v) (hv : vrel ρ' v V) :
    ∃ ρ'', Inv P ops S n ρ0 W0 D (listed.setIfInBounds j true) (A.put oj.dst V) W' ρ'' (j + 1) := by
  obtain ⟨hnl, hlt⟩ := hI.unlisted hj
  have hls : j < listed.size := by rw [hI.lsz]; exact hlt
  have hWW : WW ops S j := ⟨oj, hoj, hwant, hact⟩
  have hpj : p ≤ j := by
    rcases Nat.lt_or_ge j p with h | h
    · exact absurd (hI.pw j h (.inl hWW)) hnl
    · exact h
  have hahead : ∀ i, i < j → (WW ops S i ∨ NN ops S i) → listed.getD i false = true := by
    rintro i hi (⟨oi, hoi, _, h⟩ | ⟨oi, hoi, _, h⟩)
    · exact ready_bit hI.cl hj (hr.dok.s2 j i oj oi hoj hoi hact (by rcases h with h | h; exact .inl h; exact .inr (.inl h)) hi)
    · exact ready_bit hI.cl hj (hr.dok.s2 j i oj oi hoj hoi hact (.inr (.inr h)) hi)
  have hnoW : ∀ i, p ≤ i → i < j → ¬ WW ops S i := fun i h1 h2 hw => hI.ph i h1 hw (hahead i h2 (.inl hw))
  have hup := hI.upto hr hR0 hpj (by omega) hnoW (fun i h1 h2 hn => hahead i h2 (.inr hn))
  have hnx1 : (S j).h.next ≤ (S (j + 1)).h.next := (hr.snx (i := j) (j := j + 1) (by omega) (by omega)).nx
  have hpn : (S p).h.next ≤ (S j).h.next := (hr.snx hpj (by omega)).nx
  -- nothing is known yet of the numbers that it takes
  have hgap : ∀ id, (S j).h.next ≤ id → id < (S (j + 1)).h.next → ρ id = none := by
    intro id h1 h2
    cases h : ρ id with
    | none => rfl
    | some L =>
      obtain ⟨i, hi1, hi2, hi3, rfl⟩ := hI.dom id L (by omega) h
      have hij : i ≠ j := fun e => hnl (e ▸ hi3)
      rcases Nat.lt_or_gt_of_ne hij with hlt' | hgt
      · have := hr.new_lt hi2 hlt' (by omega); omega
      · have h3 := (hr.snx (i := j + 1) (j := i) (by omega) (by have := (hr.new1 hi2).1; omega)).nx
        omega
  let ρ2 : Map := fun id => if id < (S (j + 1)).h.next then ρ' id else ρ id
  have h2lt : ∀ id, id < (S (j + 1)).h.next → ρ2 id = ρ' id := fun id h => if_pos h
  have h2ge : ∀ id, (S (j + 1)).h.next ≤ id → ρ2 id = ρ id := fun id h => if_neg (by omega)
  have hold : ∀ id, id < (S j).h.next → ρ' id = ρ id := fun id h => by rw [hN.old id h, cutm_lt h]
  have hup2 : ∀ i L, ρ i = some L → ρ2 i = some L := by
    intro i L hi
    rcases Nat.lt_or_ge i (S (j + 1)).h.next with h | h
    · rcases Nat.lt_or_ge i (S j).h.next with h' | h'
      · rw [h2lt i h, hold i h']; exact hi
      · rw [hgap i h' h] at hi; cases hi
    · rw [h2ge i h]; exact hi
  have hcut2 : cutm ρ2 (S (j + 1)).h.next = ρ' := by
    funext id
    unfold cutm
    split
    · rename_i h; exact h2lt id h
    · rename_i h; exact (hN.rel.dom id (by omega)).symm
  have hlive : ∀ id, id < (S p).h.next → (S j).h.get id = (S p).h.get id := fun id h => hr.same hpj (by omega) h fun w h1 h2 hw => absurd hw (hnoW w h1 h2)
  -- blocks of objects apart
  have hext : ∀ i, p ≤ i → NN ops S i → listed.getD i false = true → j < i → ∀ Lc, ρ (S i).h.next = some Lc → Lc.b < W.heap.size → W'.heap[Lc.b]? = W.heap[Lc.b]? := by
    intro i hi hn hl hji Lc hLc hb
    refine hN.fr.blk _ hb fun id L' hw _ hL' => ?_
    obtain ⟨h1, h2⟩ := cutm_some hL'
    have hlt' : (S j).h.next ≤ (S i).h.next := (hr.snx (by omega) (by have := (hr.new1 hn).1; omega)).nx
    exact hI.dis i hi hn hl Lc hLc id L' (by omega) h2 fun hp => by rw [← hlive id hp]; exact hw.live
  refine ⟨ρ2, ⟨by simp [hI.lsz], hI.cl.set hj, by omega, ?_, ?_, ?_, ?_, ?_, ?_, ?_, hI.tm' hr hj hoj hok hup2 hT (by rw [hcut2]; exact hv), by rw [size_put]; exact hI.sz, by rw [defers_put]; exact hI.df⟩⟩
  · intro i hi hwn
    rw [getD_true_iff hls]
    by_cases e : i = j
    · exact .inl e
    · exact .inr (hahead i (by omega) hwn)
  · intro i hi hw hl
    rcases (getD_true_iff hls).1 hl with e | hl
    · omega
    · exact hI.ph i (by omega) hw hl
  · rw [hcut2]; exact hup.trans hR0 hN
  · intro id L hid hL
    rw [h2ge id hid] at hL
    obtain ⟨i, h1, h2, h3, rfl⟩ := hI.dom id L (by omega) hL
    refine ⟨i, ?_, h2, (getD_true_iff hls).2 (.inr h3), rfl⟩
    have hij : i ≠ j := fun e => hnl (e ▸ h3)
    rcases Nat.lt_or_gt_of_ne hij with h | h
    · have := hr.new_lt h2 h (by omega); omega
    · omega
  · intro i hi hn hl
    have hl' := ((getD_true_iff hls).1 hl).resolve_left (by omega)
    obtain ⟨Lc, h1, h2, h3, h4⟩ := hI.ext i (by omega) hn hl'
    refine ⟨Lc, hup2 _ _ h1, ?_, h3, Nat.lt_of_lt_of_le h4 hN.fr.size⟩
    refine h2.mono (cutm_le hup2 _) fun L hL hlv => ?_
    obtain ⟨_, hL2⟩ := cutm_some hL
    rw [h1] at hL2
    cases hL2
    exact hext i (by omega) hn hl' (by omega) Lc h1 h4
  · intro i hi hn hl Lc hLc id L' hne hL' hlv
    have hl' := ((getD_true_iff hls).1 hl).resolve_left (by omega)
    have hin : (S (j + 1)).h.next ≤ (S i).h.next := (hr.snx (by omega) (by have := (hr.new1 hn).1; omega)).nx
    rw [h2ge _ hin] at hLc
    obtain ⟨Lc', e1, _, _, hbW⟩ := hI.ext i (by omega) hn hl'
    rw [hLc] at e1
    cases e1
    rcases Nat.lt_or_ge id (S (j + 1)).h.next with h | h
    · have hlv' := hlv h
      rw [h2lt id h] at hL'
      rcases Nat.lt_or_ge id (S j).h.next with h' | h'
      · have hl0 := hN.wasl id h' hlv'
        rw [hold id h'] at hL'
        exact hI.dis i (by omega) hn hl' Lc hLc id L' hne hL' fun hp => by rw [← hlive id hp]; exact hl0
      · rcases hN.own id L' h' hlv' hL' with hb | ⟨k, L0, hw, _, hk, e⟩
        · omega
        · obtain ⟨hk1, hk2⟩ := cutm_some hk
          rw [← e]
          exact hI.dis i (by omega) hn hl' Lc hLc k L0 (by omega) hk2 fun hp => by rw [← hlive k hp]; exact hw.live
    · rw [h2ge id h] at hL'
      exact hI.dis i (by omega) hn hl' Lc hLc id L' hne hL' fun hp => by omega
  · intro i hi hl o a id ho hw hc hid
    have hl' : ¬ listed.getD i false = true := fun h => hl ((getD_true_iff hls).2 (.inr h))
    have hij : i ≠ j := fun e => hl ((getD_true_iff hls).2 (.inl e))
    have hlt' : i < j := by omega
    have hun : ∀ w, (listed.getD w false = true ∨ w = j) → i < w → unord (Region.before ops) i w = true := by
      intro w hlw hlt
      refine unord_mk (by omega) (fun hb => ?_) (fun hb => ?_)
      · have := bit_lt hr.dok i w hb; omega
      · rcases hlw with hlw | rfl
        · exact hl' (hI.cl.bit w i hlw hb)
        · exact hl' (ready_bit hI.cl hj hb)
    have hobj : objR P (cutm ρ (S i).h.next) W id ((S i).h.get id) := by
      rcases Nat.lt_or_ge i p with h | h
      · exact hI.pend i h hl' o a id ho hw hc hid
      · exact (hI.upto hr hR0 h (by omega) (fun k h1 h2 => hnoW k h1 (by omega)) (fun k h1 h2 hn => hahead k (by omega) (.inr hn))).rel.obj id
    refine hobj.mono (cutm_le hup2 _) fun L hL hlv => ?_
    obtain ⟨hidi, hL2⟩ := cutm_some hL
    have hij2 : (S i).h.next ≤ (S j).h.next := (hr.snx (by omega) (by omega)).nx
    have hsame : (S j).h.get id = (S i).h.get id := hr.same (by omega) (by omega) hidi fun w h1 h2 hw' => by
      obtain ⟨ow, how, hww, hact'⟩ := hw'
      have hne : i ≠ w := by
        rintro rfl
        rw [ho] at how
        cases how
        simp [isAct, isStore, hc] at hact'
      have hlw := hahead w h2 (.inl ⟨ow, how, hww, hact'⟩)
      refine (hr.shield hne ho hw hc hid how hww hact' (hun w (.inl hlw) (by omega))).2.2 (Nat.lt_of_lt_of_le hidi (hr.snx (by omega) (by omega)).nx)
    have hsh := hr.shield (w := j) (by omega) ho hw hc hid hoj hwant hact (hun j (.inr rfl) hlt')
    refine hblk id L (by rw [cutm_lt (by omega)]; exact hL2) (by rw [hsame]; exact hlv) (fun ha => ⟨(hsh.1 ha).2, (hsh.1 ha).1⟩) (fun hs => (hsh.2.1 hs).2)

end
end Go.Sx
