/- A row's arguments as the shadow reading takes them: a slice of integers; and as they read behind the call. -/
import Derived.Test.YtdhehcalmjcpgaaDoorSxLend
import Derived.Test.YtdhehcalmjcpgaaDoorSxStay
import Derived.WalkKit
import Derived.Carry
import Derived.ChangeSlices
namespace Go.Proofs.YtdhehcalmjcpgaaDoor
open Go Go.Sx Go.ChangeShapes Go.WideShapes Go.ChangeAt Go.RowKit
set_option maxRecDepth 100000
set_option linter.unusedSimpArgs false
set_option linter.unusedVariables false

theorem bytes3 : Tryd.prog.bytesOf 3 = 8 := by kernel_rfl
theorem cells3 : Tryd.prog.cellsOf 3 = 1 := by kernel_rfl

/-- A slice of integers in a world. -/
def IntsIn (W : World) (v : Value) (l : List Int) : Prop := In64 l ∧ ((v = .slice none 0 0 ∧ l = []) ∨
  ∃ b off cap CS ty fr, v = .slice (some ⟨b, off, none⟩) l.length cap ∧ l.length ≤ cap ∧ cap < unk ∧ W.heap[b]? = some (.cells CS ty fr) ∧ ∀ (k : Nat) x, l[k]? = some x → CS[off + k]? = some (.int .i64 x))

theorem ints_in {H : Type} {enc : TypeId × Value → H} {W : World} {base : Nat} {v : Value} {d : DataW H} {p : List MemPlace} (hval : Value.okWide Tryd.prog W .any base 28 v) (h : DataW.Trod enc Tryd.prog W 0 (fun _ => true) true 28 v d p) :
    ∃ l : List Int, IntsIn W v l ∧ ((DataW.weights Tryd.prog 28 d).all (· ≤ reachBytes) = true → l.length < 17592186044416) := by
  obtain ⟨a, len, cap, rfl⟩ := okWide_slice Tryd.underlying28 hval
  obtain ⟨fuel, hf⟩ := h
  have hcs : (Value.slice a len cap).cells.toList = [Value.slice a len cap] := rfl
  rw [hcs] at hf
  rcases open_ints Tryd.underlying28 Tryd.underlying3 cells3 hf with ⟨h1, h2⟩ | ⟨a', len', cap', zs, h1, hb, hl, hm, hz, hx, hcell, hwf⟩
  · cases h1
    exact ⟨[], ⟨fun x hx => (by cases hx), .inl ⟨rfl, rfl⟩⟩, fun _ => by simp⟩
  · cases h1
    simp only [if_true] at hz
    have hlen : (zs.take len).length = len := by simp; omega
    have hk : Value.okWide Tryd.prog W .any base 28 (.slice (some a') len cap) := hval
    simp only [Value.okWide, Tryd.underlying28, Cell.okWide, Cell.ok] at hk
    obtain ⟨_, _, _, hsp, row, cells, hsh, _⟩ := hk
    obtain ⟨b, off, spot⟩ := a'
    simp only at hsp
    subst hsp
    have hblk : ∃ CS ty fr, W.heap[b]? = some (.cells CS ty fr) := by
      simp only [World.shape?] at hsh
      split at hsh
      · rename_i CS ty fr hh; exact ⟨_, _, _, hh⟩
      · cases hsh
    obtain ⟨CS, ty, fr, hblk⟩ := hblk
    refine ⟨zs.take len, ⟨fun x hx => ?_, .inr ⟨b, off, cap, CS, ty, fr, by rw [hlen], by rw [hlen]; omega, by unfold maxLen at hm; unfold unk; omega, hblk, fun k x hk => ?_⟩⟩, fun hw => ?_⟩
    · have := hwf x (List.mem_of_mem_take hx)
      simp only [Lit.wf, Bool.and_eq_true, decide_eq_true_eq] at this
      have e1 : IntKind.i64.min = -9223372036854775808 := rfl
      have e2 : IntKind.i64.max = 9223372036854775807 := rfl
      omega
    · have hkl : k < len := by
        have := (List.getElem?_eq_some_iff.1 hk).1
        rw [hlen] at this
        exact this
      have hc := hcell k (by omega)
      have hadd : (⟨b, off, none⟩ : Addr).add k = ⟨b, off + k, none⟩ := by
        unfold Addr.add
        split
        · rename_i e; subst e; rfl
        · rfl
      rw [hadd] at hc
      simp only [World.cell?, hblk, Option.isSome_none, Bool.false_eq_true, if_false] at hc
      rw [hc]
      rw [List.getElem?_take_of_lt hkl] at hk
      simp [List.getD, hk]
    · simp only [Prod.mk.injEq] at hx
      obtain ⟨rfl, _⟩ := hx
      simp only [DataW.weights, Tryd.underlying28, List.all_cons, Bool.and_eq_true, decide_eq_true_eq, bytes3, lits, List.length_map, List.length_take, List.length_drop] at hw
      have := hw.1
      unfold reachBytes at this
      rw [hlen]
      omega

/-- The heap ahead of a call with one slice: the words, the slice's row. -/
def heap1 (l : List Int) : SHeap := ⟨2, 0, .node (.row wordsV 9 false true) (.node (.row (ints l) 3 false true) .leaf .leaf) .leaf⟩
theorem rel1x {W : World} (h : laidMetH Tryd.prog [("winnow/lex.words", Rows.laid_winnow_lex_words)] W) {v : Value} {l : List Int} (hv : IntsIn W v l) :
    ∃ hp ρ sv, Rel Tryd.prog ρ hp W ∧ (∀ i, ¬ wr (hp.get i)) ∧ vrel ρ sv v ∧ IntsAt hp sv l ∧ wf hp ∧ hp.floor = 0 ∧ hp.get 0 = .row wordsV 9 false true ∧ (l = [] ∨ ∃ cap, sv = .slice (some ⟨1, 0, none⟩) l.length cap ∧ l.length ≤ cap ∧ cap < unk ∧ hp.next = 2) := by
  obtain ⟨hin, hor⟩ := hv
  rcases hor with ⟨rfl, rfl⟩ | ⟨b, off, cap, CS, ty, fr, rfl, hcp, hc, hb, hall⟩
  · obtain ⟨hR, hw⟩ := rel0 h
    exact ⟨heap0, map0, .slice none 0 0, hR, hw, .flat rfl, ⟨none, 0, rfl, fun b hb => (by cases hb), fun k x hk => (by simp at hk)⟩, rfl, rfl, rfl, .inl rfl⟩
  · obtain ⟨CS0, ty0, fr0, hb0, hcs0⟩ := strs_of_head (zs := wordsB) (rest := []) gWords gWordsType Tryd.underlying138 Tryd.underlying9 cells9 cellsWords h
    have hro := rel_ro (P := Tryd.prog) (W := W) (ρ := fun i => if i = 0 then some ⟨0, 0, 0, 0⟩ else if i = 1 then some ⟨b, off, 0, 0⟩ else none) (h := heap1 l) rfl (fun i hi => by
        have : 2 ≤ i := hi
        rw [if_neg (by omega), if_neg (by omega)]) (fun g hg => by
        rw [globs] at hg
        obtain rfl : g = 0 := by omega
        exact ⟨_, rfl, rfl, rfl⟩) (fun i hi => by
        have hi' : i < 2 := hi
        rcases (show i = 0 ∨ i = 1 by omega) with rfl | rfl
        · refine ⟨wordsV, 9, false, ⟨0, 0, 0, 0⟩, CS0, ty0, fr0, rfl, rfl, hb0, fun k v hv => ⟨v, ?_, ?_⟩⟩
          · have : CS0.toList[k]? = some v := by rw [hcs0]; exact hv
            simpa using this
          · have hm : v ∈ wordsV := List.mem_of_getElem? hv
            obtain ⟨z, _, rfl⟩ := List.mem_map.1 hm
            exact .flat rfl
        · refine ⟨ints l, 3, false, ⟨b, off, 0, 0⟩, CS, ty, fr, rfl, rfl, hb, fun k v hv => ?_⟩
          rw [ints_get] at hv
          obtain ⟨x, hx, rfl⟩ := Option.map_eq_some_iff.1 hv
          exact ⟨_, hall k x hx, .flat rfl⟩)
    refine ⟨heap1 l, _, .slice (some ⟨1, 0, none⟩) l.length cap, hro.1, hro.2, ?_, ⟨_, _, rfl, fun b hb => (by cases hb; rfl), fun k x hk => ⟨1, 0, ints l, 3, false, true, rfl, rfl, ?_⟩⟩, rfl, rfl, rfl, .inr ⟨cap, rfl, hcp, hc, rfl⟩⟩
    · exact vrel.slice (L := ⟨b, off, 0, 0⟩) rfl hc
    · rw [Nat.zero_add, ints_get, hk]
      rfl
theorem rel1 {W : World} (h : laidMetH Tryd.prog [("winnow/lex.words", Rows.laid_winnow_lex_words)] W) {v : Value} {l : List Int} (hv : IntsIn W v l) :
    ∃ hp ρ sv, Rel Tryd.prog ρ hp W ∧ (∀ i, ¬ wr (hp.get i)) ∧ vrel ρ sv v ∧ IntsAt hp sv l ∧ wf hp ∧ hp.floor = 0 ∧ hp.get 0 = .row wordsV 9 false true := by
  obtain ⟨hp, ρ, sv, h1, h2, h3, h4, h5, h6, h7, _⟩ := rel1x h hv
  exact ⟨hp, ρ, sv, h1, h2, h3, h4, h5, h6, h7⟩
end Go.Proofs.YtdhehcalmjcpgaaDoor
