/- Each operation of the shadow reading is the machine's: append, copy, maps. -/
import Derived.Test.YtdnnjkneablfiaaGreatDoorSx5
namespace Go.Sx
open Go
set_option linter.unusedSimpArgs false
set_option linter.unusedVariables false

section
variable {P : Program} {ρ : Map} {h : SHeap} {W : World}

theorem nx_kill (hR : Rel P ρ h W) {i : Nat} (hi : i < h.next) (hf : h.floor ≤ i) : Nx P ρ h W ρ (h.put i .dead) W := by
  have hget : ∀ j, (h.put i .dead).get j = if i = j then .dead else h.get j := fun j => by
    by_cases e : i = j
    · subst e; rw [if_pos rfl, get_put_same hR.len hi]
    · rw [if_neg e, get_put_ne hi e]
  refine ⟨fun _ _ h => h, fun _ _ => rfl, ⟨len_put hR.len, hR.dom, hR.glob, ?_, ?_⟩, Fr.refl _ _ _, Nat.le_refl _, rfl, ?_, ?_, ?_, ?_⟩
  · intro j
    rw [hget]
    split
    · trivial
    · exact hR.obj j
  · intro a b La Lb hwa hlb hne hLa hLb
    rw [hget] at hwa hlb
    split at hwa
    · exact hwa.elim
    · split at hlb
      · exact hlb.elim
      · exact hR.inj a b La Lb hwa hlb hne hLa hLb
  · intro j hj hjf
    rw [hget, if_neg (by omega)]
  · intro j hj hwj
    rw [hget] at hwj
    split at hwj
    · exact hwj.elim
    · exact hwj
  · intro j hj hwj
    rw [hget] at hwj
    split at hwj
    · exact hwj.elim
    · exact hwj
  · intro j L' hj hwj _
    rw [get_ge (by simpa [SHeap.put] using hj)] at hwj
    exact hwj.elim

/-- An object goes on under a new number, in its block. -/
theorem nx_take (hR : Rel P ρ h W) {i : Nat} {o : SObj} {W' : World} {L L' : Loc} (hw : wr (h.get i)) (hf : h.floor ≤ i) (hL : ρ i = some L) (hLb : L'.b = L.b)
    (hos : W'.os = W.os) (htp : W'.tape = W.tape) (hout : W'.output = W.output) (hsz : W'.heap.size = W.heap.size)
    (hblk : ∀ b, b ≠ L.b → W'.heap[b]? = W.heap[b]?) (ho : objR P (upd ρ h.next L') W' h.next o) : Nx P ρ h W (upd ρ h.next L') ((h.put i .dead).push o) W' := by
  have hi : i < h.next := hR.lt hL
  have hx := hR.ext_upd (L := L')
  have hget : ∀ j, ((h.put i .dead).push o).get j = if j = h.next then o else if i = j then .dead else h.get j := fun j => by
    by_cases e : j = h.next
    · subst e
      rw [if_pos rfl]
      exact get_push_new (h := h.put i .dead)
    · rw [if_neg e, get_push (h := h.put i .dead) e]
      by_cases e2 : i = j
      · subst e2; rw [if_pos rfl, get_put_same hR.len hi]
      · rw [if_neg e2, get_put_ne hi e2]
  have hkeep : ∀ j, j ≠ h.next → i ≠ j → objR P (upd ρ h.next L') W' j (h.get j) := fun j _ hj =>
    (hR.obj j).mono hx fun L2 hL2 hl => hblk _ (Ne.symm (hR.inj i j L L2 hw hl hj hL hL2))
  refine ⟨hx, fun i hi => upd_ne (by omega), ⟨len_push (len_put hR.len), ?_, ?_, ?_, ?_⟩, ⟨hos, htp, hout, by omega, ?_⟩, by simp [SHeap.push, SHeap.put], rfl, ?_, ?_, ?_, ?_⟩
  · intro j hj
    have hj' : h.next + 1 ≤ j := hj
    rw [upd_ne (by omega)]
    exact hR.dom j (by omega)
  · intro g hg
    obtain ⟨L2, h1, h2, h3⟩ := hR.glob g hg
    exact ⟨L2, hx _ _ h1, h2, h3⟩
  · intro j
    rw [hget]
    split
    · rename_i e; subst e; exact ho
    · split
      · trivial
      · exact hkeep j ‹_› ‹_›
  · intro a b La Lb hwa hlb hne hLa hLb'
    rw [hget] at hwa hlb
    by_cases ea : a = h.next
    · subst ea
      rw [upd_same] at hLa
      cases hLa
      rw [if_neg (Ne.symm hne)] at hlb
      rw [upd_ne (Ne.symm hne)] at hLb'
      split at hlb
      · exact hlb.elim
      · rw [hLb]; exact hR.inj i b L Lb hw hlb ‹_› hL hLb'
    · rw [if_neg ea] at hwa
      rw [upd_ne ea] at hLa
      split at hwa
      · exact hwa.elim
      · by_cases eb : b = h.next
        · subst eb
          rw [upd_same] at hLb'
          cases hLb'
          rw [hLb]
          exact hR.inj a i La L hwa hw.live (Ne.symm ‹_›) hLa hL
        · rw [if_neg eb] at hlb
          rw [upd_ne eb] at hLb'
          split at hlb
          · exact hlb.elim
          · exact hR.inj a b La Lb hwa hlb hne hLa hLb'
  · intro b _ hno
    exact hblk b (Ne.symm (hno i L hw hf hL))
  · intro j hj hjf
    rw [hget, if_neg (by omega), if_neg (by omega)]
  · intro j hj hwj
    rw [hget, if_neg (by omega)] at hwj
    split at hwj
    · exact hwj.elim
    · exact hwj
  · intro j hj hwj
    rw [hget, if_neg (by omega)] at hwj
    split at hwj
    · exact hwj.elim
    · exact hwj
  · intro j L2 hj hwj hL2
    rw [hget] at hwj
    split at hwj
    · rename_i e
      subst e
      rw [upd_same] at hL2
      cases hL2
      exact .inr ⟨i, L, hw, hf, hL, hLb.symm⟩
    · split at hwj
      · exact hwj.elim
      · rw [get_ge hj] at hwj; exact hwj.elim

/-- The cells that are appended or copied. -/
theorem srcCells_ok (hR : Rel P ρ h W) {s n m c : Nat} {a : Option Addr} {SRC : Value} {new : List Value} (hx : vrel ρ (.slice a m c) SRC) (hnm : n ≤ m) (hs : srcCells h s n (.slice a m c) = some new) :
    ∃ (A : Option Addr) (C : Nat) (New : List Value), SRC = .slice A m C ∧ New.length = n * s ∧ All2 (vrel ρ) new New ∧ (n = 0 ∨ ∃ B : Addr, A = some B ∧ ∀ (j : Nat) (u : Value), New[j]? = some u → W.cell? (B.add j) = some u) := by
  rcases vrel_slice hx with ⟨rfl, rfl, rfl, rfl⟩ | ⟨id, off, L, rfl, hL, hlt, rfl⟩ | ⟨id, off, L, A, C, rfl, hL, rfl, hC, rfl, hA⟩
  · have hn : n = 0 := by omega
    subst hn
    simp [srcCells] at hs
    subst hs
    exact ⟨none, 0, [], rfl, by simp, .nil, .inl rfl⟩
  · simp only [srcCells] at hs
    by_cases h0 : n = 0
    · rw [if_pos h0] at hs
      cases hs
      subst h0
      exact ⟨_, _, [], rfl, by simp, .nil, .inl rfl⟩
    · rw [if_neg h0] at hs
      split at hs
      · rename_i cs ty g ro hg
        obtain ⟨CS, ty', fr, hb, hcs, _⟩ := row_get hR hg hL
        obtain ⟨New, hN, h2, h3⟩ := cells_list hs hcs
        refine ⟨_, _, New, rfl, hN, h2, .inr ⟨_, rfl, fun j u hu => ?_⟩⟩
        rw [add_lit, cell_of_row W L.b _ CS ty' fr hb]
        exact h3 j u hu
      · cases hs
  · simp only [srcCells] at hs
    by_cases h0 : n = 0
    · rw [if_pos h0] at hs
      cases hs
      subst h0
      exact ⟨_, _, [], rfl, by simp, .nil, .inl rfl⟩
    · rw [if_neg h0] at hs
      split at hs
      · rename_i cs ty g ro hg
        obtain ⟨CS, ty', fr, hb, hcs, _⟩ := row_get hR hg hL
        obtain ⟨New, hN, h2, h3⟩ := cells_list hs hcs
        rcases hA with rfl | ⟨rfl, _⟩
        · omega
        · refine ⟨_, _, New, rfl, hN, h2, .inr ⟨_, rfl, fun j u hu => ?_⟩⟩
          rw [add_lit, cell_of_row W L.b _ CS ty' fr hb]
          exact h3 j u hu
      · cases hs

theorem run_first {s n m C : Nat} {A : Option Addr} {New : List Value} (hN : New.length = n * s) (h : n = 0 ∨ ∃ B : Addr, A = some B ∧ ∀ (j : Nat) (u : Value), New[j]? = some u → W.cell? (B.add j) = some u) :
    (Builtin.firstCells s n (.slice A m C)).run P W = .ok New.toArray W := by
  rcases h with rfl | ⟨B, rfl, hc⟩
  · have : New = [] := List.eq_nil_of_length_eq_zero (by simpa using hN)
    subst this
    cases A with
    | none => simp [Builtin.firstCells]
    | some B => simp [Builtin.firstCells, loadCells, loadCellsFrom]
  · exact run_firstCells_some W s n B m C New hN hc

theorem run_append_in {t e ty : TypeId} {s n len C C' : Nat} {A : Addr} {A' : Option Addr} {New : List Value} {W' : World} (hu : P.underlying t = some (.slice e)) (hz : szOf P e = some s)
    (hN : New.length = n * s) (hsrc : n = 0 ∨ ∃ B : Addr, A' = some B ∧ ∀ (j : Nat) (u : Value), New[j]? = some u → W.cell? (B.add j) = some u) (hroom : len + n ≤ C)
    (hst : (storeCells (A.add (len * s)) New).run P W = .ok () W') :
    (Builtin.append_ #[t, t] ty #[.slice (some A) len C, .slice A' n C']).run P W = .ok (.slice (some A) (len + n) C) W' := by
  have hf := run_first (P := P) (m := n) (C := C') hN hsrc
  simp [Builtin.append_, run_underlying hu, run_sizeOf hz, Builtin.lenOf, hroom, hf, hst]

theorem run_append_in0 {t e ty : TypeId} {s len C C' : Nat} {A A' : Option Addr} (hu : P.underlying t = some (.slice e)) (hz : szOf P e = some s) (hroom : len ≤ C) :
    (Builtin.append_ #[t, t] ty #[.slice A len C, .slice A' 0 C']).run P W = .ok (.slice A len C) W := by
  have hf := run_first (P := P) (W := W) (s := s) (n := 0) (m := 0) (C := C') (A := A') (New := []) (by simp) (.inl rfl)
  cases A with
  | none => simp [Builtin.append_, run_underlying hu, run_sizeOf hz, Builtin.lenOf, hroom, hf]
  | some A => simp [Builtin.append_, run_underlying hu, run_sizeOf hz, Builtin.lenOf, hroom, hf, storeCells]

theorem info_of {e : TypeId} {s by_ : Nat} {z : Value} (hsz : szOf P e = some s) (hz : zeroOf P e = some z) (hby : byOf P e = some by_) : ∃ i, P.info? e = some i ∧ i.size = s ∧ i.zero = some z ∧ i.bytes = by_ := by
  unfold szOf at hsz
  unfold zeroOf at hz
  unfold byOf at hby
  cases hq : P.info? e with
  | none => simp [hq] at hsz
  | some i => simp [hq] at hsz hz hby; exact ⟨i, rfl, hsz, hz, hby⟩

/-- It grows: a new row. -/
theorem append_grows (hR : Rel P ρ h W) {t e ty : TypeId} {s by_ len n C C' : Nat} {z : Value} {A A' : Option Addr} {old new Old New : List Value} (hu : P.underlying t = some (.slice e)) (hsz : szOf P e = some s) (hz : zeroOf P e = some z) (hby : byOf P e = some by_)
    (hzs : z.cells.size = s) (hO : Old.length = len * s) (hold : len = 0 ∨ ∃ B : Addr, A = some B ∧ ∀ (j : Nat) (u : Value), Old[j]? = some u → W.cell? (B.add j) = some u) (hAn : A = none → C = 0)
    (hN : New.length = n * s) (hnew : n = 0 ∨ ∃ B : Addr, A' = some B ∧ ∀ (j : Nat) (u : Value), New[j]? = some u → W.cell? (B.add j) = some u) (hro : All2 (vrel ρ) old Old) (hrn : All2 (vrel ρ) new New)
    (hgr : C < len + n) (hle : len ≤ C) (hb : (len + n) * by_ ≤ 140737488355328) (hl : len + n ≤ 140737488355328) :
    ∃ V W' ρ', (Builtin.append_ #[t, t] ty #[.slice A len C, .slice A' n C']).run P W = .ok V W' ∧ Nx P ρ h W ρ' (h.push (.row (old ++ new) e true false)) W' ∧ vrel ρ' (.slice (some ⟨h.next, 0, none⟩) (len + n) unk) V := by
  obtain ⟨i, hi, rfl, hiz, rfl⟩ := info_of hsz hz hby
  have hn : n ≠ 0 := by omega
  obtain ⟨B', rfl, hB'⟩ : ∃ B : Addr, A' = some B ∧ ∀ (j : Nat) (u : Value), New[j]? = some u → W.cell? (B.add j) = some u := hnew.resolve_left hn
  have key : ∃ cp, len + n ≤ cp ∧ (Builtin.append_ #[t, t] ty #[.slice A len C, .slice (some B') n C']).run P W = .ok (.slice (some ⟨W.heap.size, 0, none⟩) (len + n) cp) (W.drew.alloc (.cells (Old.toArray ++ New.toArray ++ Builtin.zeroCells z.cells (cp - (len + n))) e)) := by
    cases A with
    | none =>
      have hC := hAn rfl
      subst hC
      have hl0 : len = 0 := by omega
      subst hl0
      have hOn : Old = [] := List.eq_nil_of_length_eq_zero (by simpa using hO)
      subst hOn
      have hr := run_append_nil (P := P) W t ty e i z hu hi hiz B' n C' New hN hB' (by omega) (by omega) (by simp only [Nat.zero_add] at hb; omega)
      exact ⟨grownCap W n 0 e, by simpa using grownCap_ge W n 0 e, by simpa using hr⟩
    | some B =>
      have hfit := growslice_fits (need := len + n) (old := C) (bytes := i.bytes) hgr hb
      have hOB : ∀ (j : Nat) (u : Value), Old[j]? = some u → W.cell? (B.add j) = some u := by
        rcases hold with rfl | ⟨B2, e2, h2⟩
        · have : Old = [] := List.eq_nil_of_length_eq_zero (by simpa using hO)
          subst this
          simp
        · cases e2; exact h2
      have hr := run_append_grow (P := P) W t ty e i z hu hi hiz B len C Old hO hOB B' n C' New hN hB' hgr (by omega) hfit
      exact ⟨grownCap W (len + n) C e, grownCap_ge W (len + n) C e, hr⟩
  obtain ⟨cp, hcp, hrun⟩ := key
  refine ⟨_, _, _, hrun, nx_row hR (W1 := W.drew) rfl rfl rfl rfl hsz ?_, ?_⟩
  · intro k v hv
    have hall := hro.append hrn
    obtain ⟨V, hV, hr⟩ := hall.get hv
    refine ⟨V, ?_, hr⟩
    have hlt : k < (Old ++ New).length := (List.getElem?_eq_some_iff.1 hV).1
    rw [Array.getElem?_append_left (by simpa using hlt)]
    simpa using hV
  · refine vrel.sliceU (upd_same _ _ _) hcp (.inr ⟨by simp, ?_⟩)
    simp only [Array.size_append, List.size_toArray, size_zeroCells, hO, hN, hzs, Nat.zero_add, ← Nat.add_mul]
    congr 1
    omega

theorem appendS_ok (hR : Rel P ρ h W) {t ty : TypeId} {x X y Y v : Value} {h' : SHeap} (hx : vrel ρ x X) (hy : vrel ρ y Y) (hs : appendS P h t x y = some (v, h')) :
    ∃ V W' ρ', (Builtin.append_ #[t, t] ty #[X, Y]).run P W = .ok V W' ∧ Nx P ρ h W ρ' h' W' ∧ vrel ρ' v V := by
  unfold appendS at hs
  split at hs
  · rename_i e base len cap sb n sc hu
    split at hs
    · rename_i s by_ z hsz hby hz
      split at hs
      · rename_i hc0
        simp only [Bool.and_eq_true, decide_eq_true_eq, beq_iff_eq] at hc0
        obtain ⟨⟨hs0, hzs⟩, hlc⟩ := hc0
        split at hs
        · rename_i new hnew
          split at hs
          · rename_i hone
            obtain ⟨A', C', New, rfl, hN, hrn, hsrc⟩ := srcCells_ok hR hy (Nat.le_refl _) hnew
            split at hs
            · rename_i hcu
              subst hcu
              split at hs
              · rename_i id off
                rcases vrel_slice hx with ⟨h1, _⟩ | ⟨id', off', L, h1, hL, hlt, _⟩ | ⟨id', off', L, A, C, h1, hL, _, hC, rfl, hA⟩
                · cases h1
                · exact absurd hlt (Nat.lt_irrefl _)
                · cases h1
                  split at hs
                  · rename_i hc1
                    simp only [Bool.and_eq_true, decide_eq_true_eq] at hc1
                    obtain ⟨⟨hb, hl⟩, hf⟩ := hc1
                    split at hs
                    · rename_i hn0
                      cases hs
                      subst hn0
                      exact ⟨_, _, ρ, run_append_in0 hu hsz hC, Nx.refl hR, hx⟩
                    · rename_i hn0
                      split at hs
                      · rename_i cs ty' hg
                        split at hs
                        · rename_i hty
                          subst hty
                          split at hs
                          · rename_i old hcut
                            split at hs
                            · rename_i hoone
                              cases hs
                              obtain ⟨CS, ty2, fr, hb2, hcs, hown⟩ := row_get hR hg hL
                              obtain ⟨rfl, rfl, hCS, hzz⟩ := hown rfl
                              rw [hsz] at hzz
                              cases hzz
                              obtain ⟨Old, hO, hro, hOc⟩ := cells_list hcut hcs
                              have hwr : wr (h.get id) := by rw [hg]; rfl
                              by_cases hroom : len + n ≤ C
                              · rcases hA with rfl | ⟨rfl, he⟩
                                · omega
                                · have hmul : (len + n) * L.z ≤ C * L.z := Nat.mul_le_mul_right _ hroom
                                  rw [Nat.add_mul] at hmul
                                  have hfit : L.d + (off + len * L.z) + New.length ≤ CS.size := by omega
                                  have hNone : ∀ v ∈ New, v.oneCell' = true := by
                                    intro V hV
                                    obtain ⟨k, hk⟩ := List.getElem?_of_mem hV
                                    obtain ⟨v, hv, hr⟩ := hrn.getR hk
                                    rw [← one_eq, vrel_one hr]
                                    exact List.all_eq_true.1 hone v (List.mem_of_getElem? hv)
                                  have hst := run_storeCells_at P L.b (L.d + (off + len * L.z)) _ New 0 CS W hb2 (by simpa using hfit) hNone
                                  have hrun := run_append_in (P := P) (W := W) (A := ⟨L.b, L.d + off, none⟩) (ty := ty) (C' := C') hu hsz hN hsrc hroom (by rw [add_lit, Nat.add_assoc]; exact hst)
                                  simp only [Nat.add_zero] at hrun
                                  refine ⟨_, _, upd ρ h.next ⟨L.b, L.d + off, L.e - off, L.z⟩, hrun, ?_, ?_⟩
                                  · have hnewh : (W.setRow L.b (CS.toList.take (L.d + (off + len * L.z)) ++ New ++ CS.toList.drop (L.d + (off + len * L.z) + New.length)).toArray).heap[L.b]? = some (.cells (lay CS.toList (L.d + (off + len * L.z)) New).toArray _ (0, 0)) := setRow_heap W L.b CS _ _ _ hb2
                                    refine nx_take hR (L := L) hwr hf hL rfl rfl rfl rfl (by simp) (fun b hne => setRow_other W L.b b _ hne) ?_
                                    refine ⟨_, _, _, _, upd_same _ _ _, hnewh, ?_, fun _ => ⟨rfl, rfl, ?_, hsz⟩⟩
                                    · intro k v hv
                                      simp only [List.getElem?_toArray]
                                      rw [lay_get (by simpa using hfit)]
                                      have hol : old.length = len * L.z := (cut_spec hcut).1
                                      by_cases hk : k < old.length
                                      · rw [List.getElem?_append_left hk] at hv
                                        obtain ⟨V, hV, hr⟩ := hro.get hv
                                        refine ⟨V, ?_, hr.mono hR.ext_upd⟩
                                        rw [if_neg (by omega)]
                                        have := hOc k V hV
                                        simpa using this
                                      · rw [List.getElem?_append_right (by omega)] at hv
                                        obtain ⟨V, hV, hr⟩ := hrn.get hv
                                        refine ⟨V, ?_, hr.mono hR.ext_upd⟩
                                        have hk2 : k - old.length < New.length := (List.getElem?_eq_some_iff.1 hV).1
                                        rw [if_pos ⟨by omega, by omega⟩, show L.d + off + k - (L.d + (off + len * L.z)) = k - old.length by omega]
                                        exact hV
                                    · simp only [List.size_toArray]
                                      rw [lay_length (by simpa using hfit)]
                                      simp only [Array.length_toList]
                                      omega
                                  · refine vrel.sliceU (upd_same _ _ _) hroom (.inr ⟨by simp, ?_⟩)
                                    simp only [Nat.zero_add]
                                    omega
                              · have hkill := nx_kill hR (hR.lt hL) hf
                                have hOsrc : len = 0 ∨ ∃ B : Addr, some A = some B ∧ ∀ (j : Nat) (u : Value), Old[j]? = some u → W.cell? (B.add j) = some u := by
                                  rcases hA with rfl | ⟨rfl, _⟩
                                  · left; omega
                                  · right
                                    refine ⟨_, rfl, fun j u hu => ?_⟩
                                    rw [add_lit, cell_of_row W L.b _ CS _ (0, 0) hb2]
                                    exact hOc j u hu
                                obtain ⟨V, W', ρ', hrun, hN2, hv⟩ := append_grows (ty := ty) (C' := C') hkill.rel hu hsz hz hby hzs hO hOsrc (fun h => by cases h) hN hsrc hro hrn (by omega) hC hb hl
                                exact ⟨V, W', ρ', hrun, hkill.trans hR hN2, hv⟩
                            · cases hs
                          · cases hs
                        · cases hs
                      · cases hs
                  · cases hs
              · cases hs
            · rename_i hcu
              split at hs
              · rename_i hroom
                split at hs
                · rename_i hn0
                  cases hs
                  subst hn0
                  rcases vrel_slice hx with ⟨rfl, rfl, rfl, rfl⟩ | ⟨id', off', L, rfl, hL, hlt, rfl⟩ | ⟨id', off', L, A, C, _, hL, h1, _⟩
                  · exact ⟨_, _, ρ, run_append_in0 hu hsz (by omega), Nx.refl hR, hx⟩
                  · exact ⟨_, _, ρ, run_append_in0 hu hsz (by omega), Nx.refl hR, hx⟩
                  · exact absurd h1 hcu
                · rename_i hn0
                  split at hs
                  · rename_i id off
                    split at hs
                    · rename_i h2 hst
                      cases hs
                      rcases vrel_slice hx with ⟨h1, _⟩ | ⟨id', off', L, h1, hL, hlt, rfl⟩ | ⟨id', off', L, A, C, _, hL, h1, _⟩
                      · cases h1
                      · cases h1
                        obtain ⟨W', hrun, hN2⟩ := storeRow_ok hR hrn hL hst
                        refine ⟨_, _, ρ, run_append_in (P := P) (W := W) hu hsz hN hsrc hroom (by rw [add_lit, Nat.add_assoc]; exact hrun), hN2, .slice hL hlt⟩
                      · exact absurd h1 hcu
                    · cases hs
                  · cases hs
              · rename_i hroom
                split at hs
                · rename_i hc1
                  simp only [Bool.and_eq_true, decide_eq_true_eq] at hc1
                  obtain ⟨⟨⟨hb, hb2⟩, hl⟩, hl2⟩ := hc1
                  split at hs
                  · rename_i old hold
                    cases hs
                    obtain ⟨A, C, Old, hX, hO, hro, hOs⟩ := srcCells_ok hR hx (Nat.le_refl _) hold
                    subst hX
                    have hCc : C = cap := by
                      rcases vrel_slice hx with ⟨rfl, rfl, rfl, e1⟩ | ⟨id', off', L, rfl, hL, hlt, e1⟩ | ⟨id', off', L, A, C, _, hL, h1, _⟩
                      · cases e1; rfl
                      · cases e1; rfl
                      · exact absurd h1 hcu
                    subst hCc
                    have hAn : A = none → C = 0 := by
                      rintro rfl
                      rcases vrel_slice hx with ⟨rfl, rfl, rfl, e1⟩ | ⟨id', off', L, rfl, hL, hlt, e1⟩ | ⟨id', off', L, A, C, _, hL, h1, _⟩
                      · rfl
                      · cases e1
                      · exact absurd h1 hcu
                    exact append_grows hR hu hsz hz hby hzs hO hOs hAn hN hsrc hro hrn (by omega) (by omega) hb hl
                  · cases hs
                · cases hs
          · cases hs
        · cases hs
      · cases hs
    · cases hs
  · cases hs
end
end Go.Sx
