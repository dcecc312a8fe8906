/- CostGrows: for every slice of rows and every two lists of numbers the law answers true, on every machine, whatever order is drawn: the shadow reading of the program and of the document, sound (the Sx texts), both telling what one GX reading tells (the Nx and the Cx texts). -/
import Derived.Test.YtipekdhneagdbaaDoorCards
import Derived.Test.YtipekdhneagdbaaDoorTie
import Derived.WalkKit
import Derived.ProofKit
import Derived.OpenShut
import Derived.Deep.DeepHandedRow
import Derived.Test.YtipekdhneagdbaaDoorCG13
namespace Go.Proofs.YtipekdhneagdbaaDoor.costGrows
open Go.ChangeShapes Go.WideShapes Go.ChangeAt Go.RowKit Go.Sx
set_option maxRecDepth 100000

theorem own : ownKnob Tryd.prog.godebug = none := by kernel_rfl

theorem Bw (H : Type) (enc : TypeId × Value → H) (W : World) (base : Nat) (args : Array Value) (ds gs : List (DataW H)) (before : List MemPlace)
    (hval : ∀ (j : Nat) t v, Tryd.f11.params[j]? = some t → args[j]? = some v → Value.okWide Tryd.prog W .any base t v)
    (hW : DataW.Whole enc Tryd.prog Tryd.f11.params.toList Rows.costGrowsSpec.vars false W args.toList ds gs before)
    (hL : laidMetH Tryd.prog Rows.costGrowsRow.laid W) :
    Calls Tryd.prog 11 args W fun e W' => ∃ v, e = .returned v ∧ Rows.costGrowsSpec.post enc Tryd.prog Tryd.f11 false true false false W args v W' := by
  have hW' := hW
  obtain ⟨p, q, hA0, hV, rfl, hfz, hnd⟩ := hW
  have hA : DataW.TrodAll enc Tryd.prog W 0 (fun _ => true) true Tryd.f11.params.toList args.toList ds p := hA0
  rw [Tryd.params11] at hA hval
  obtain ⟨v0, vs0, d0, ds0, p0, q0, hargs, rfl, rfl, h0, r0⟩ := trodAll_cons hA
  obtain ⟨v1, vs1, d1, ds1, p1, q1, rfl, rfl, rfl, h1, r1⟩ := trodAll_cons r0
  obtain ⟨v2, vs2, d2, ds2, p2, q2, rfl, rfl, rfl, h2, r2⟩ := trodAll_cons r1
  obtain ⟨rfl, rfl, rfl⟩ := trodAll_nil r2
  obtain rfl : args = #[v0, v1, v2] := by cases args; simp_all
  obtain ⟨rfl, rfl⟩ := trodVars_none hV
  obtain ⟨l, hl64, hl⟩ := Nw (hval 0 22 v0 rfl rfl) h0
  obtain ⟨A, hA1⟩ := iJ (hval 1 28 v1 rfl rfl) h1
  obtain ⟨B, hB1⟩ := iJ (hval 2 28 v2 rfl rfl) h2
  obtain ⟨hp, ρ, sv, sw, su, hR, hw, hvr, hvi, hvu, hi, ha, hwi, hui, hfl, hg0, hn0⟩ := z9 hL hl hA1 hB1
  obtain ⟨h', hs, _⟩ := yM (n := 9000001) hi ha hwi hui (fun x hx => (hl64 x hx).2.2.2.2) (by rw [hfl]; omega) hg0 hn0 (by omega)
  have hcall := (QG J2 (cY 9000001).1 (cY 9000001).2 9000001).1 11 _ _ _ _ hs
  refine (hcall.2 ρ W #[v0, v1, v2] hR (.cons hvr (.cons hvi (.cons hvu .nil)))).mono fun e W' ⟨V, ρ', he, hN, hv⟩ => ?_
  subst he
  obtain rfl := Q5 hv
  have hb := (hN.fr.gr hw).below
  exact ⟨_, rfl, Gd (pa := p0 ++ (p1 ++ (p2 ++ []))) (pv := []) hW' (fun _ _ _ => trodAll_cons_mk (shut_bool Tryd.underlying4 _) trodAll_mk0)
    (fun sp hsp => Hr hb _ _ _ _ (by kernel_rfl) hA (fun x hx => hW'.lt x (by simpa using hx)) (fun x hx => hsp x (by simpa using hx))) (fun _ _ => rfl) (by simp)
    hb (ok_one (by kernel_rfl) rfl (okWide_bool_mk Tryd.underlying4 _))⟩

/-- A world for the witness: the settled one, the words (block 0) holding what their initialiser lays. -/
noncomputable def dQ (os : Os) : World :=
  { World.holding Tryd.prog os ⟨#[], #[], []⟩ with heap := (World.holding Tryd.prog os ⟨#[], #[], []⟩).heap.modify 0 fun
      | .cells _ t frozen => .cells MW.toArray t frozen
      | o => o }
theorem Qb (os : Os) : laidMet Tryd.prog Rows.costGrowsRow.laid ((dQ os).forCall (fun _ _ => 0) ⟨#[], #[Z0, Z0, Z0], []⟩).memory :=
  laidMet_of_run' 8 (by kernel_rfl) (by kernel_rfl)
theorem NK (os : Os) {H : Type} (enc : TypeId × Value → H) : ∃ G7, DataW.whole enc Tryd.prog ((dQ os).forCall (fun _ _ => 0) ⟨#[], #[Z0, Z0, Z0], []⟩).memory Tryd.f11.params.toList Rows.costGrowsSpec.vars false #[Z0, Z0, Z0].toList 8 = some ([.nil, .nil, .nil], [], G7) :=
  ⟨[], by kernel_rfl⟩

theorem Lp (os : Os) (started : os.Started) (H : Type) (enc : TypeId × Value → H) (F : Stop.Interp) :
    ReturnsInHanded {} Tryd.checked os 11 .any ((OpenSpec.ofChange Rows.costGrowsSpec).preRow enc Tryd.prog Tryd.f11 Rows.costGrowsRow.domain false Rows.costGrowsRow.laid) (((OpenSpec.ofChange Rows.costGrowsSpec).at F).post enc Tryd.prog Tryd.f11 false true false false) := by
  obtain ⟨G7, hx⟩ := NK os enc
  refine returnsInHanded_of_row (C := Tryd.checked) (s := OpenSpec.ofChange Rows.costGrowsSpec) own started (by kernel_rfl) Tryd.func11
    (witness_row_at (enc := enc) (C := Tryd.checked) false (dQ os) #[Z0, Z0, Z0] rfl (by kernel_rfl) (by kernel_rfl) (by kernel_rfl)
      (OpenSpec.preRow_of_cond 8 hx (by kernel_rfl) (fun k hk => by cases hk) (by kernel_rfl) (Qb os))) ?_
  intro W base args ds gs before hval hW _ _ hwt hL _ _
  exact Bw H enc W base args ds gs before hval hW hL

theorem said : Rows.CostGrowsSaid :=
  OpenClaim.holds_of_cond 11 Tryd.f11 rfl rfl rfl rfl rfl rfl rfl ⟨rfl, rfl, rfl, rfl, rfl⟩ rfl rfl rfl rfl rfl (by kernel_rfl) Tryd.func11 (by kernel_rfl)
    (of_decide_eq_true (by kernel_rfl)) (by unfold Func.isWrapper; first | (rw [if_pos (by decide +kernel)]; kernel_rfl) | (rw [if_neg (by decide +kernel)]; exact ⟨rfl, rfl⟩))
    (fun os started H enc _ F => by rw [OpenClaim.pre_eq_preRow]; exact Lp os started H enc F)

/-- No parameter wants a stand-in; the program's own looks are off: what the card asks. -/
theorem GX (f : FuncId) (fn : Func) (hf : Tryd.pinned.checked.prog.funcNamed "winnow/winnowlaw10.CostGrows" = some f) (hfn : Tryd.pinned.checked.prog.funcs[f]? = some fn) :
    false = Tryd.pinned.checked.prog.looks [] ∧ ∀ (j : Nat) t, fn.params[j]? = some t → Tryd.pinned.checked.prog.wantsStandIn t = false := by
  obtain rfl : f = 11 := Option.some.inj ((show Tryd.prog.funcNamed "winnow/winnowlaw10.CostGrows" = some 11 by kernel_rfl).symm.trans hf) |>.symm
  obtain rfl : fn = Tryd.f11 := (Option.some.inj (Tryd.func11.symm.trans hfn)).symm
  refine ⟨by kernel_rfl, fun j t ht => ?_⟩
  rw [Tryd.params11] at ht
  have hm : t = 22 ∨ t = 28 := by have := Array.mem_of_getElem? ht; simpa using this
  rcases hm with rfl | rfl
  · exact (show Tryd.prog.wantsStandIn 22 = false by kernel_rfl)
  · exact (show Tryd.prog.wantsStandIn 28 = false by kernel_rfl)

theorem card : Rows.CostGrowsCardSaid :=
  Claim7.holds_tied_plain_at .later [] _ _ _ _ said (fun _ h => by cases h) (by kernel_rfl) (fun _ h => by cases h) costGrows_row_tie rfl ⟨rfl, rfl⟩ (by kernel_rfl) rfl GX (by kernel_rfl)
end Go.Proofs.YtipekdhneagdbaaDoor.costGrows
