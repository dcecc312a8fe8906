/- Calls of plain values that come to a plain value: they may be evaluated over a heap that holds nothing. -/
import Derived.Test.YtdnnjkneablfiaaGreatDoorSx16
namespace Go.Sx
open Go
set_option linter.unusedSimpArgs false
set_option linter.unusedVariables false

def plainArg : Value → Bool
  | .func (.func _) f c => f.isEmpty && c.isEmpty
  | v => flat v
theorem plainArg_rel {ρ ρ' : Map} {v V : Value} (hp : plainArg v = true) (h : vrel ρ v V) : vrel ρ' v V := by
  unfold plainArg at hp
  split at hp
  · rename_i k f c
    simp only [Bool.and_eq_true, Array.isEmpty_iff] at hp
    obtain ⟨rfl, rfl⟩ := hp
    obtain ⟨f', c', rfl, h1, h2⟩ := vrel_func h
    have e1 : f' = #[] := by
      have := h1.length
      simp at this
      exact Array.eq_empty_of_size_eq_zero this.symm
    have e2 : c' = #[] := by
      have := h2.length
      simp at this
      exact Array.eq_empty_of_size_eq_zero this.symm
    subst e1
    subst e2
    exact .func .nil .nil
  · rw [flat_eq hp h]
    exact vrel_flat hp
theorem plainArgs_rel {ρ ρ' : Map} {l : List Value} {m : List Value} (hp : l.all plainArg = true) (h : All2 (vrel ρ) l m) : All2 (vrel ρ') l m := by
  induction h with
  | nil => exact .nil
  | cons h _ ih =>
    simp only [List.all_cons, Bool.and_eq_true] at hp
    exact .cons (plainArg_rel hp.1 h) (ih hp.2)

noncomputable def dropS (m : Nat) (call : SCall) : SCall := fun f args h =>
  if args.all plainArg then match call f args (deadH m 0) with
    | some (v, _) => if flat v then some (v, h) else none
    | none => none
  else none

theorem dropS_some {m : Nat} {call : SCall} {f : FuncId} {args : List Value} {h h' : SHeap} {v : Value} (hs : dropS m call f args h = some (v, h')) :
    args.all plainArg = true ∧ (∃ h1, call f args (deadH m 0) = some (v, h1)) ∧ flat v = true ∧ h' = h := by
  unfold dropS at hs
  split at hs
  · rename_i hc
    split at hs
    · rename_i v' h1 he
      split at hs
      · rename_i hf
        cases hs
        exact ⟨hc, ⟨h1, he⟩, hf, rfl⟩
      · cases hs
    · cases hs
  · cases hs
theorem dropS_of {m : Nat} {call : SCall} {f : FuncId} {args : List Value} {h : SHeap} {v : Value} (ha : args.all plainArg = true) (hv : flat v = true) (hc : ∃ h1, call f args (deadH m 0) = some (v, h1)) :
    dropS m call f args h = some (v, h) := by
  obtain ⟨h1, he⟩ := hc
  unfold dropS
  rw [if_pos ha, he]
  simp only [hv, if_true]

theorem dropS_ok {P : Program} {call : SCall} (hc : CallOK P call) {m : Nat} (hg : P.globals.size ≤ m) : CallOK P (dropS m call) ∧ SnxOK (dropS m call) := by
  refine ⟨fun f args h v h' hs => ?_, fun f args h v h' hs => ?_⟩
  · obtain ⟨ha, ⟨h1, he⟩, hv, rfl⟩ := dropS_some hs
    obtain ⟨hfn, hc2⟩ := hc _ _ _ _ _ he
    refine ⟨hfn, fun ρ W ARGS hR hargs => ?_⟩
    have hR0 : Rel P (cutm ρ m) (deadH m 0) W := rel_dead (fun i hi => by unfold cutm; rw [if_neg (by omega)]) fun g hgl => by
      rw [cutm_lt (by omega)]
      exact hR.glob g hgl
    have hnw : ∀ i, ¬ wr ((deadH m 0).get i) := fun i hw => by rw [get_deadH] at hw; exact hw
    refine (hc2 _ W ARGS hR0 (plainArgs_rel ha hargs)).mono fun e W' ⟨V, ρ', he', hN, hv'⟩ => ⟨V, ρ, he', (Nx.refl hR).grow (hN.fr.gr hnw), ?_⟩
    rw [flat_eq hv hv']
    exact vrel_flat hv
  · obtain ⟨_, _, _, rfl⟩ := dropS_some hs
    exact .refl _
end Go.Sx
