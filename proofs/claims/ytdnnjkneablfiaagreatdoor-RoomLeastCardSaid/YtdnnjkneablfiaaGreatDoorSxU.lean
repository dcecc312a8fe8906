/- The row's end where a world has only grown; a package variable that is an array of strings; a heap of objects that are only read. -/
import Derived.Test.YtdnnjkneablfiaaGreatDoorSxP
import Derived.Below
import Derived.ChangeSame
import Derived.Lib.LaidTab
import Derived.ProofKit
namespace Go.Sx
open Go Go.RowKit Go.WideShapes Go.ChangeShapes
set_option linter.unusedSimpArgs false
set_option linter.unusedVariables false

section
variable {H : Type} {enc : TypeId × Value → H} {P : Program}
theorem post_of_grown {f : Func} {s : ChangeSpec} {apart fresh handsOn again : Bool} {W W' : World} {args : Array Value} {v : Value} {ds gs : List (DataW H)} {before pa pv : List MemPlace}
    (hW : DataW.Whole enc P f.params.toList s.vars apart W args.toList ds gs before)
    (hres : ∀ (b : Nat) (sp : Nat → Bool) (hd : Bool), DataW.TrodAll enc P W' b sp hd f.resultTypes.toList (v.resultList f.resultTypes.size) (s.fn H (ds ++ gs)).results [])
    (hargs : ∀ sp : Nat → Bool, (∀ p ∈ before, sp p.block = true) → DataW.TrodAll enc P W' 0 sp true f.params.toList args.toList (s.fn H (ds ++ gs)).args pa)
    (hvars : ∀ sp : Nat → Bool, (∀ p ∈ before, sp p.block = true) → DataW.TrodVars enc P W' sp s.vars (s.fn H (ds ++ gs)).vars pv)
    (hps : before = pa ++ pv) (hb : Below W.heap.size W W')
    (hok : ∀ (j : Nat) (t : TypeId) (r : Value), f.resultTypes[j]? = some t → (v.resultList f.resultTypes.size)[j]? = some r → Value.okWide P W' .any 0 t r) :
    s.post enc P f apart fresh handsOn again W args v W' := by
  have hlt : ∀ p ∈ before, p.block < W.heap.size := fun p hp => hW.lt p hp
  have hold : ∀ p ∈ before, (fun b => decide (b < W.heap.size)) p.block = true := fun p hp => by simpa using hlt p hp
  refine ⟨ds, gs, before, [], pa, pv, hW, hres _ _ _, hargs _ hold, hvars _ hold, World.keptBut_mono (fun p hp => ⟨hp, ?_⟩) (hb.frame (· ∈ before)), fun _ => ?_⟩
  · rw [hps, List.mem_append] at hp
    exact Or.inr hp
  · obtain ⟨_, _, _, _, _, hz, hn⟩ := hW
    refine ⟨hok, _, _, ([] ++ pa) ++ pv, ⟨[] ++ pa, pv, trodAll_append (hargs _ (fun _ _ => rfl)) (hres _ _ _), hvars _ (fun _ _ => rfl), rfl, ?_, ?_⟩, ?_⟩
    · intro b off hp
      have hin : MemPlace.cell b off ∈ before := by rw [hps]; simpa using hp
      rw [hb.frozen (hlt _ hin)]
      exact hz b off hin
    · intro ha
      have := hn ha
      rw [hps] at this
      simpa using this
    · intro p hp _
      rw [hps]
      simpa using hp
end

theorem cells_of_strs {H : Type} {enc : TypeId × Value → H} {P : Program} {w : World} {base : Nat} {sp : Nat → Bool} {held : Bool} {fuel : Nat} {t e : TypeId} {n : Nat} {cs : List Value} {zs : List (List UInt8)} {p : List MemPlace}
    (ht : P.underlying t = some (.array n e)) (he : P.underlying e = some .string) (hce : P.cellsOf e = 1) (hct : P.cellsOf t = n)
    (h : DataW.trod enc P w base sp held fuel t cs = some (.agg (zs.map fun z => .lit (.string z)), p)) : cs = zs.map fun z => Value.string ⟨z.toArray⟩ := by
  cases fuel with
  | zero => simp [DataW.trod] at h
  | succ fuel =>
    simp only [DataW.trod, ht, hce, hct, Nat.mul_one] at h
    split at h
    · rename_i hl
      obtain ⟨xs, hm, hx⟩ := Option.map_eq_some_iff.1 h
      have hxs : xs.map (·.1) = zs.map fun z => (DataW.lit (.string z) : DataW H) := by
        have := congrArg Prod.fst hx
        simpa using this
      have hxl : xs.length = n := by simpa using Lib.mapM_length hm
      have hzl : zs.length = n := by
        have := congrArg List.length hxs
        simp at this
        omega
      apply List.ext_getElem?
      intro i
      by_cases hi : i < n
      · obtain ⟨b, hb, hf⟩ := Lib.mapM_at hm i i (by simp [hi])
        obtain ⟨z, hc, rfl, _⟩ := DataW.trod_string he hf
        have h1 : cs[i]? = some (.string z) := by
          have := congrArg (·[0]?) hc
          simpa [List.getElem?_take, List.getElem?_drop] using this
        have h2 : (xs.map (·.1))[i]? = some (DataW.lit (.string z.data.toList) : DataW H) := by simp [hb]
        rw [hxs] at h2
        simp only [List.getElem?_map, Option.map_eq_some_iff, DataW.lit.injEq, Lit.string.injEq] at h2
        obtain ⟨z', hz', hz⟩ := h2
        subst hz
        simp [h1, hz']
      · rw [List.getElem?_eq_none (by omega), List.getElem?_eq_none (by simp; omega)]
    · cases h

theorem strs_of_head {P : Program} {W : World} {name : String} {zs : List (List UInt8)} {rest : List (String × DataW Unit)} {g : Nat} {t e : TypeId} {n : Nat}
    (hg : P.globalNamed name = some g) (hty : (P.globals[g]?).map (·.type) = some t) (ht : P.underlying t = some (.array n e)) (he : P.underlying e = some .string) (hce : P.cellsOf e = 1) (hct : P.cellsOf t = n)
    (h : laidMet P ((name, .agg (zs.map fun z => .lit (.string z))) :: rest) W) : ∃ CS ty fr, W.heap[g]? = some (.cells CS ty fr) ∧ CS.toList = zs.map fun z => Value.string ⟨z.toArray⟩ := by
  obtain ⟨ps, ⟨g', t', cs, fuel, p, q, hg', ht', hvar, hd, _, _⟩, _⟩ := h
  obtain rfl := Option.some.inj (hg.symm.trans hg')
  obtain rfl := Option.some.inj (hty.symm.trans ht')
  have hcs := cells_of_strs ht he hce hct hd
  simp only [World.var?, hg, Option.bind_some] at hvar
  split at hvar
  · rename_i CS ty fr hb
    cases hvar
    exact ⟨_, _, _, hb, hcs⟩
  · cases hvar

/-- A heap whose objects are only read. -/
theorem rel_ro {P : Program} {W : World} {ρ : Map} {h : SHeap} (hl : h.good) (hd : ∀ i, h.next ≤ i → ρ i = none) (hg : ∀ g, g < P.globals.size → ∃ L, ρ g = some L ∧ L.b = g ∧ L.d = 0)
    (ho : ∀ i, i < h.next → ∃ cs ty g L CS ty' fr, h.get i = .row cs ty g true ∧ ρ i = some L ∧ W.heap[L.b]? = some (.cells CS ty' fr) ∧ ∀ (k : Nat) (v : Value), cs[k]? = some v → ∃ V, CS[L.d + k]? = some V ∧ vrel ρ v V) :
    Rel P ρ h W ∧ ∀ i, ¬ wr (h.get i) := by
  have hw : ∀ i, ¬ wr (h.get i) := fun i hw => by
    rcases Nat.lt_or_ge i h.next with hi | hi
    · obtain ⟨cs, ty, g, L, CS, ty', fr, h1, _⟩ := ho i hi
      rw [h1] at hw
      cases hw
    · rw [get_ge hi] at hw
      exact hw
  refine ⟨⟨hl, hd, hg, fun i => ?_, fun i j L L' hwi => absurd hwi (hw i)⟩, hw⟩
  rcases Nat.lt_or_ge i h.next with hi | hi
  · obtain ⟨cs, ty, g, L, CS, ty', fr, h1, h2, h3, h4⟩ := ho i hi
    rw [h1]
    exact ⟨L, CS, ty', fr, h2, h3, h4, fun h => by cases h⟩
  · rw [get_ge hi]
    trivial

theorem Gr.below {W W' : World} (h : Gr W W') : Below W.heap.size W W' := ⟨h.os, h.tape, h.output, h.size, h.blk⟩

/-- A call on a heap that is only read. -/
theorem ro_call {P : Program} (hP : progOK P = true) {fuel : Nat} {f : FuncId} {args : List Value} {h h' : SHeap} {v : Value} (hs : callF P fuel f args h = some (v, h')) {ρ : Map} {W : World} (hR : Rel P ρ h W) (hw : ∀ i, ¬ wr (h.get i))
    {ARGS : Array Value} (ha : All2 (vrel ρ) args ARGS.toList) : Calls P f ARGS W fun e W' => ∃ V ρ', e = .returned V ∧ vrel ρ' v V ∧ Below W.heap.size W W' :=
  Calls.mono ((callF_ok hP fuel).1 f args h v h' hs |>.2 ρ W ARGS hR ha) fun _ _ ⟨V, ρ', he, hN, hv⟩ => ⟨V, ρ', he, hv, (hN.fr.gr hw).below⟩
end Go.Sx
