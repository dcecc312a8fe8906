/- Each operation of the shadow reading is the machine's: what is built, made, appended. -/
import Derived.Test.YtdnnjkneablfiaaGreatDoorSx4
namespace Go.Sx
open Go
set_option linter.unusedSimpArgs false
set_option linter.unusedVariables false

section
variable {P : Program} {ρ : Map} {h : SHeap} {W : World}

/-- The machine's laying of cells, one by one. -/
theorem foldl_lay (new : List Value) : ∀ (off j : Nat) (C : Array Value), off + j + new.length ≤ C.size →
    ((new.zipIdx j).foldl (fun cs (x : Value × Nat) => cs.setIfInBounds (off + x.2) x.1) C) = (lay C.toList (off + j) new).toArray := by
  induction new with
  | nil => intro off j C _; simp [lay]
  | cons v rest ih =>
    intro off j C hl
    simp only [List.length_cons] at hl
    rw [List.zipIdx_cons, List.foldl_cons, ih off (j + 1) _ (by simp; omega)]
    congr 1
    apply List.ext_getElem?
    intro k
    rw [lay_get (by simp; omega), lay_get (by simp; omega)]
    simp only [Array.toList_setIfInBounds, List.getElem?_set, List.length_cons]
    by_cases h1 : k = off + j
    · subst h1
      have hb1 : ¬ (off + (j + 1) ≤ off + j ∧ off + j < off + (j + 1) + rest.length) := by omega
      have hb2 : off + j ≤ off + j ∧ off + j < off + j + (rest.length + 1) := by omega
      rw [if_neg hb1, if_pos hb2]
      simp
      omega
    · by_cases h2 : off + j ≤ k ∧ k < off + j + (rest.length + 1)
      · rw [if_pos ⟨by omega, by omega⟩, if_pos h2, show k - (off + j) = (k - (off + (j + 1))) + 1 by omega]
        simp
      · rw [if_neg (by omega), if_neg h2, if_neg (by omega)]

theorem foldl_layA (A : Array Value) (off : Nat) (C : Array Value) (hl : off + A.size ≤ C.size) :
    (A.zipIdx.foldl (fun cs (x : Value × Nat) => cs.setIfInBounds (off + x.2) x.1) C) = (lay C.toList off A.toList).toArray := by
  rw [← Array.foldl_toList, Array.toList_zipIdx, foldl_lay A.toList off 0 C (by simpa using hl)]
  rfl

theorem all2_lay {cs new CS New : List Value} (hc : All2 (vrel ρ) cs CS) (hn : All2 (vrel ρ) new New) (off : Nat) : All2 (vrel ρ) (lay cs off new) (lay CS off New) := by
  unfold lay
  rw [hn.length]
  exact ((hc.take off).append hn).append (hc.drop _)

theorem fill_ok (place : Nat → Option (Nat × Nat)) {parts PARTS : List (Nat × Value)} (hp : All2 (fun a b => a.1 = b.1 ∧ vrel ρ a.2 b.2) parts PARTS) : ∀ {cs r : List Value} {CS : Array Value},
    All2 (vrel ρ) cs CS.toList → fillS place cs parts = some r → ∃ R, Instr.fill place CS PARTS = some R ∧ All2 (vrel ρ) r R.toList := by
  induction hp with
  | nil =>
    intro cs r CS hc hs
    simp only [fillS] at hs
    cases hs
    exact ⟨CS, rfl, hc⟩
  | cons hh _ ih =>
    intro cs r CS hc hs
    rename_i a b l m _
    obtain ⟨i, v⟩ := a
    obtain ⟨i', V⟩ := b
    obtain ⟨rfl, hv⟩ := hh
    simp only [fillS] at hs
    simp only [Instr.fill]
    cases hpl : place i with
    | none => simp [hpl] at hs
    | some x =>
      obtain ⟨off, size⟩ := x
      simp only [hpl] at hs ⊢
      have hcl := vrel_cells hv
      have hsz : V.cells.size = v.cells.size := by simpa using hcl.length.symm
      have hCS : CS.size = cs.length := by simpa using hc.length.symm
      split at hs
      · cases hs
      · rename_i hno
        rw [hsz, hCS, if_neg hno]
        simp only [Bool.or_eq_true, decide_eq_true_eq, not_or, Nat.not_lt] at hno
        rw [foldl_layA _ _ _ (by rw [hsz, hCS]; exact hno.2)]
        exact ih (by simpa using all2_lay hc hcl off) hs

theorem mapM_places {l : List Field} {pl : List (Nat × Nat)} (hs : places P l = some pl) : (l.mapM (fun f => (do pure (f.offset, ← sizeOf f.type) : Sem (Nat × Nat)))).run P W = .ok pl W := by
  induction l generalizing pl with
  | nil => simp [places] at hs; subst hs; simp
  | cons f fs ih =>
    simp only [places] at hs
    split at hs
    · rename_i n hz
      split at hs
      · rename_i l hl
        cases hs
        have ih' := ih hl
        rw [List.mapM_cons]
        simp only [Sem.run_bind, run_sizeOf hz, Result.andThen_ok, Sem.run_pure, ih']
      · cases hs
    · cases hs

theorem arr_mapM_places {l : Array Field} {pl : List (Nat × Nat)} (hs : places P l.toList = some pl) : (l.mapM (fun f => (do pure (f.offset, ← sizeOf f.type) : Sem (Nat × Nat)))).run P W = .ok pl.toArray W := by
  rw [Array.mapM_eq_mapM_toList, Sem.run_map, mapM_places hs]
  rfl

theorem zero_rel {z : Value} (hf : flat z = true) : All2 (vrel ρ) z.cells.toList z.cells.toList := vrel_cells (vrel_flat hf)

theorem buildS_ok {t : TypeId} {parts : List (Nat × Value)} {PARTS : Array (Nat × Value)} {v : Value} (hp : All2 (fun a b => a.1 = b.1 ∧ vrel ρ a.2 b.2) parts PARTS.toList) (hs : buildS P t parts = some v) :
    ∃ V, (Instr.build t PARTS).run P W = .ok V W ∧ vrel ρ v V := by
  unfold buildS at hs
  split at hs
  · rename_i z hz
    split at hs
    · rename_i hf
      split at hs
      · rename_i fs hu
        split at hs
        · rename_i pl hpl
          split at hs
          · rename_i cs hcs
            cases hs
            obtain ⟨R, hR, hrel⟩ := fill_ok _ hp (zero_rel hf) hcs
            refine ⟨.agg R, ?_, .agg (by simpa using hrel)⟩
            have hm := arr_mapM_places (W := W) hpl
            simp only [bind_pure_comp] at hm
            simp [Instr.build, run_zeroValue hz, run_underlying hu, hm, hR]
          · cases hs
        · cases hs
      · rename_i n e hu
        split at hs
        · rename_i s hsz
          split at hs
          · rename_i cs hcs
            cases hs
            obtain ⟨R, hR, hrel⟩ := fill_ok _ hp (zero_rel hf) hcs
            exact ⟨.agg R, by simp [Instr.build, run_zeroValue hz, run_underlying hu, run_sizeOf hsz, hR], .agg (by simpa using hrel)⟩
          · cases hs
        · cases hs
      · cases hs
    · cases hs
  · cases hs

theorem zeros_length (z : List Value) (n : Nat) : (zeros z n).length = n * z.length := by
  induction n with
  | zero => simp [zeros]
  | succ n ih => simp [zeros, ih, Nat.succ_mul]; omega

theorem zeros_get (z : List Value) (n k : Nat) (hk : k < n * z.length) : (zeros z n)[k]? = z[k % z.length]? := by
  induction n generalizing k with
  | zero => simp at hk
  | succ n ih =>
    simp only [zeros]
    by_cases h1 : k < z.length
    · rw [List.getElem?_append_left h1, Nat.mod_eq_of_lt h1]
    · rw [List.getElem?_append_right (by omega), ih _ (by rw [Nat.succ_mul] at hk; omega)]
      congr 1
      rw [← Nat.mod_eq_sub_mod (by omega)]

theorem zeros_made {z : Array Value} (hz : 0 < z.size) (n : Nat) : (zeros z.toList n).toArray = (Array.range (n * z.size)).map (z[· % z.size]!) := by
  apply Array.ext'
  apply List.ext_getElem?
  intro k
  simp only [Array.toList_map, Array.toList_range, List.getElem?_map]
  by_cases hk : k < n * z.size
  · rw [zeros_get _ _ _ (by simpa using hk)]
    have hm : k % z.size < z.size := Nat.mod_lt _ hz
    simp [hk, hm, getElem!_pos z (k % z.size) hm]
  · rw [List.getElem?_eq_none (by rw [zeros_length]; simpa using hk)]
    simp [hk]

theorem flat_one {z : Value} (hf : flat z = true) : ∀ v ∈ z.cells.toList, one v = true := by
  intro v hv
  unfold flat at hf
  split at hf
  · rename_i cs
    have := List.all_eq_true.1 hf v hv
    cases v <;> simp_all [flat1, one]
  · have e : z.cells = #[z] := by cases z <;> simp [flat1] at hf <;> rfl
    rw [e] at hv
    simp at hv
    subst hv
    cases v <;> simp_all [flat1, one]

/-- A new row of cells of known number. -/
theorem nx_row (hR : Rel P ρ h W) {cs : List Value} {CS : Array Value} {ty : TypeId} {g : Bool} {s : Nat} {W1 : World} (h1 : W1.heap = W.heap) (hos : W1.os = W.os) (htp : W1.tape = W.tape) (hout : W1.output = W.output)
    (hz : szOf P ty = some s) (hc : ∀ (k : Nat) (v : Value), cs[k]? = some v → ∃ V, CS[k]? = some V ∧ vrel ρ v V) :
    Nx P ρ h W (upd ρ h.next ⟨W.heap.size, 0, CS.size, s⟩) (h.push (.row cs ty g false)) (W1.alloc (.cells CS ty)) := by
  refine nx_push hR h1 hos htp hout rfl ?_
  refine ⟨_, CS, ty, (0, 0), upd_same _ _ _, ?_, ?_, fun _ => ⟨rfl, rfl, by simp, hz⟩⟩
  · have := heap_alloc_new W1 (.cells CS ty)
    rw [h1] at this
    exact this
  · intro k v hv
    obtain ⟨V, hV, hr⟩ := hc k v hv
    exact ⟨V, by simpa using hV, hr.mono hR.ext_upd⟩

theorem all2_hc {cs : List Value} {CS : Array Value} (hc : All2 (vrel ρ) cs CS.toList) : ∀ (k : Nat) (v : Value), cs[k]? = some v → ∃ V, CS[k]? = some V ∧ vrel ρ v V := fun k v hv => by
  obtain ⟨V, hV, hr⟩ := hc.get hv
  exact ⟨V, by simpa using hV, hr⟩

theorem buildSliceS_ok (hR : Rel P ρ h W) {t : TypeId} {len : Nat} {parts : List (Nat × Value)} {PARTS : Array (Nat × Value)} {v : Value} {h' : SHeap} (hp : All2 (fun a b => a.1 = b.1 ∧ vrel ρ a.2 b.2) parts PARTS.toList)
    (hs : buildSliceS P h t len parts = some (v, h')) : ∃ V W' ρ', (Instr.buildSlice t len PARTS).run P W = .ok V W' ∧ Nx P ρ h W ρ' h' W' ∧ vrel ρ' v V := by
  unfold buildSliceS at hs
  split at hs
  · rename_i e hu
    split at hs
    · rename_i s z hsz hz
      split at hs
      · rename_i hc
        simp only [Bool.and_eq_true, decide_eq_true_eq, beq_iff_eq] at hc
        obtain ⟨⟨⟨hf, hzs⟩, hs0⟩, hlim⟩ := hc
        split at hs
        · rename_i cs hcs
          cases hs
          have hz2 : 0 < z.cells.size := by omega
          have hrel : All2 (vrel ρ) (zeros z.cells.toList len) ((Array.range (len * s)).map (z.cells[· % z.cells.size]!)).toList := by
            have := zeros_made hz2 len
            rw [hzs] at this
            rw [hzs, ← this]
            refine All2.same fun a ha => ?_
            obtain ⟨k, hk⟩ := List.getElem?_of_mem ha
            have hlt : k < (zeros z.cells.toList len).length := (List.getElem?_eq_some_iff.1 hk).1
            rw [zeros_length] at hlt
            rw [zeros_get _ _ _ hlt] at hk
            obtain ⟨b, hb, hr⟩ := (zero_rel (ρ := ρ) hf).get hk
            rw [hk] at hb
            cases hb
            exact hr
          obtain ⟨R, hRr, hrr⟩ := fill_ok _ hp hrel hcs
          have hlen : len < unk := by unfold unk; have := Nat.le_mul_of_pos_right len hs0; omega
          refine ⟨.slice (some ⟨W.heap.size, 0, none⟩) len len, W.alloc (.cells R e), _, ?_, nx_row hR rfl rfl rfl rfl hsz (all2_hc hrr), ?_⟩
          · have hlim' : ¬ (16777216 < len * s) := by omega
            by_cases h0 : len * s = 0
            · simp only [h0, Array.range_zero', Array.map_empty] at hRr
              simp [Instr.buildSlice, run_underlying hu, run_sizeOf hsz, h0, hRr, newRow, Array.range_zero']
            · simp [Instr.buildSlice, run_underlying hu, run_sizeOf hsz, hlim', h0, run_zeroValue hz, hRr, newRow]
          · have := vrel.slice (ρ := upd ρ h.next ⟨W.heap.size, 0, R.size, s⟩) (id := h.next) (off := 0) (n := len) (c := len) (upd_same _ _ _) hlen
            simpa using this
        · cases hs
      · cases hs
    · cases hs
  · cases hs

theorem makeSliceS_ok (hR : Rel P ρ h W) {t : TypeId} {l c L C v : Value} {h' : SHeap} (hl : vrel ρ l L) (hc : vrel ρ c C)
    (hs : makeSliceS P h t l c = some (v, h')) : ∃ V W' ρ', (Instr.makeSlice t L C).run P W = .ok V W' ∧ Nx P ρ h W ρ' h' W' ∧ vrel ρ' v V := by
  unfold makeSliceS at hs
  split at hs
  · rename_i e kl l kc c hu
    split at hs
    · rename_i s z by_ hsz hz hby
      split at hs
      · rename_i hcond
        simp only [Bool.and_eq_true, decide_eq_true_eq, beq_iff_eq] at hcond
        obtain ⟨⟨⟨⟨⟨⟨hf, hzs⟩, hs0⟩, hl0⟩, hlc⟩, hb⟩, hc48⟩ := hcond
        cases hs
        obtain rfl := vrel_int hl
        obtain rfl := vrel_int hc
        have hi : ∃ i, P.info? e = some i ∧ i.size = s ∧ i.zero = some z ∧ i.bytes = by_ := by
          unfold szOf at hsz
          unfold zeroOf at hz
          unfold byOf at hby
          cases hq : P.info? e with
          | none => simp [hq] at hsz
          | some i => simp [hq] at hsz hz hby; exact ⟨i, rfl, hsz, hz, hby⟩
        obtain ⟨i, hi, rfl, hiz, rfl⟩ := hi
        have hz2 : 0 < z.cells.size := by omega
        have hrun := run_make (P := P) W t e i z hu hi hiz kl kc l c hl0 hlc hb (by omega)
        have hm := zeros_made hz2 c.toNat
        rw [hzs] at hm
        have hmade : madeCells z.cells (c.toNat * i.size) = (zeros z.cells.toList c.toNat).toArray := by
          unfold madeCells; rw [hzs]; exact hm.symm
        rw [hmade] at hrun
        refine ⟨_, _, _, hrun, nx_row hR rfl rfl rfl rfl hsz (all2_hc ?_), ?_⟩
        · refine All2.same fun a ha => ?_
          obtain ⟨k, hk⟩ := List.getElem?_of_mem ha
          have hlt : k < (zeros z.cells.toList c.toNat).length := (List.getElem?_eq_some_iff.1 hk).1
          rw [zeros_length] at hlt
          rw [zeros_get _ _ _ hlt] at hk
          obtain ⟨b, hb, hr⟩ := (zero_rel (ρ := ρ) hf).get hk
          rw [hk] at hb
          cases hb
          exact hr
        · have := vrel.slice (ρ := upd ρ h.next ⟨W.heap.size, 0, (zeros z.cells.toList c.toNat).toArray.size, i.size⟩) (id := h.next) (off := 0) (n := l.toNat) (c := c.toNat) (upd_same _ _ _) (by unfold unk; omega)
          simpa using this
      · cases hs
    · cases hs
  · cases hs

end
end Go.Sx
