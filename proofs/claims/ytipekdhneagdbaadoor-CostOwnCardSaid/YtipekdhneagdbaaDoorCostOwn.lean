/- CostOwn: for every list of slices of rows and every list of numbers the law answers true, on every machine, whatever order is drawn: the shadow reading of the program sound (the Sx texts), telling what a HB reading tells (the Nx and the Cx texts). -/
import Derived.Test.YtipekdhneagdbaaDoorCards
import Derived.Test.YtipekdhneagdbaaDoorTie
import Derived.WalkKit
import Derived.ProofKit
import Derived.OpenShut
import Derived.Deep.DeepHandedRow
import Derived.Test.YtipekdhneagdbaaDoorCO13
namespace Go.Proofs.YtipekdhneagdbaaDoor.costOwn
open Go.ChangeShapes Go.WideShapes Go.ChangeAt Go.RowKit Go.Sx
set_option maxRecDepth 100000

theorem own : ownKnob Tryd.prog.godebug = none := by kernel_rfl

theorem Dl (H : Type) (enc : TypeId × Value → H) (W : World) (base : Nat) (args : Array Value) (ds gs : List (DataW H)) (before : List MemPlace)
    (hval : ∀ (j : Nat) t v, Tryd.f12.params[j]? = some t → args[j]? = some v → Value.okWide Tryd.prog W .any base t v)
    (hW : DataW.Whole enc Tryd.prog Tryd.f12.params.toList Rows.costOwnSpec.vars false W args.toList ds gs before)
    (hL : laidMetH Tryd.prog Rows.costOwnRow.laid W) :
    Calls Tryd.prog 12 args W fun e W' => ∃ v, e = .returned v ∧ Rows.costOwnSpec.post enc Tryd.prog Tryd.f12 false true false false W args v W' := by
  have hW' := hW
  obtain ⟨p, q, hA0, hV, rfl, hfz, hnd⟩ := hW
  have hA : DataW.TrodAll enc Tryd.prog W 0 (fun _ => true) true Tryd.f12.params.toList args.toList ds p := hA0
  rw [Tryd.params12] at hA hval
  obtain ⟨v0, vs0, d0, ds0, p0, q0, hargs, rfl, rfl, h0, r0⟩ := trodAll_cons hA
  obtain ⟨v1, vs1, d1, ds1, p1, q1, rfl, rfl, rfl, h1, r1⟩ := trodAll_cons r0
  obtain ⟨rfl, rfl, rfl⟩ := trodAll_nil r1
  obtain rfl : args = #[v0, v1] := by cases args; simp_all
  obtain ⟨rfl, rfl⟩ := trodVars_none hV
  obtain ⟨L, hq, hl⟩ := yC (hval 0 59 v0 rfl rfl) h0
  obtain ⟨A, hA1⟩ := Bo (hval 1 28 v1 rfl rfl) h1
  obtain ⟨hp, ρ, sv, sw, S, hR, hw, hvr, hvi, hSl, hS, hsv, hsw, hfl, hg0, hn0⟩ := xK hL hl (fun x hx => (hq x hx).1) hA1
  obtain ⟨h', hs, _⟩ := Nu (n := 9000001) hsv hSl hS (fun x hx r hr => ((hq x hx).2 r hr).2.2.2.2) hsw (by rw [hfl]; omega) hg0 hn0 (by omega)
  have hcall := (S0 KF (eT 9000001).1 (eT 9000001).2 9000001).1 12 _ _ _ _ hs
  refine (hcall.2 ρ W #[v0, v1] hR (.cons hvr (.cons hvi .nil))).mono fun e W' ⟨V, ρ', he, hN, hv⟩ => ?_
  subst he
  obtain rfl := QT hv
  have hb := (hN.fr.gr hw).below
  exact ⟨_, rfl, Pw (pa := p0 ++ (p1 ++ [])) (pv := []) hW' (fun _ _ _ => trodAll_cons_mk (shut_bool Tryd.underlying4 _) trodAll_mk0)
    (fun sp hsp => Dr hb _ _ _ _ (by kernel_rfl) hA (fun x hx => hW'.lt x (by simpa using hx)) (fun x hx => hsp x (by simpa using hx))) (fun _ _ => rfl) (by simp)
    hb (ok_one (by kernel_rfl) rfl (okWide_bool_mk Tryd.underlying4 _))⟩

/-- A world for the witness: the settled one, the words (block 0) holding what their initialiser lays. -/
noncomputable def ZP (os : Os) : World :=
  { World.holding Tryd.prog os ⟨#[], #[], []⟩ with heap := (World.holding Tryd.prog os ⟨#[], #[], []⟩).heap.modify 0 fun
      | .cells _ t frozen => .cells LF.toArray t frozen
      | o => o }
theorem wA (os : Os) : laidMet Tryd.prog Rows.costOwnRow.laid ((ZP os).forCall (fun _ _ => 0) ⟨#[], #[Z0, Z0], []⟩).memory :=
  laidMet_of_run' 8 (by kernel_rfl) (by kernel_rfl)
theorem ND (os : Os) {H : Type} (enc : TypeId × Value → H) : ∃ HC, DataW.whole enc Tryd.prog ((ZP os).forCall (fun _ _ => 0) ⟨#[], #[Z0, Z0], []⟩).memory Tryd.f12.params.toList Rows.costOwnSpec.vars false #[Z0, Z0].toList 8 = some ([.nil, .nil], [], HC) :=
  ⟨[], by kernel_rfl⟩

theorem Km (os : Os) (started : os.Started) (H : Type) (enc : TypeId × Value → H) (F : Stop.Interp) :
    ReturnsInHanded {} Tryd.checked os 12 .any ((OpenSpec.ofChange Rows.costOwnSpec).preRow enc Tryd.prog Tryd.f12 Rows.costOwnRow.domain false Rows.costOwnRow.laid) (((OpenSpec.ofChange Rows.costOwnSpec).at F).post enc Tryd.prog Tryd.f12 false true false false) := by
  obtain ⟨HC, hx⟩ := ND os enc
  refine returnsInHanded_of_row (C := Tryd.checked) (s := OpenSpec.ofChange Rows.costOwnSpec) own started (by kernel_rfl) Tryd.func12
    (witness_row_at (enc := enc) (C := Tryd.checked) false (ZP os) #[Z0, Z0] rfl (by kernel_rfl) (by kernel_rfl) (by kernel_rfl)
      (OpenSpec.preRow_of_cond 8 hx (by kernel_rfl) (fun k hk => by cases hk) (by kernel_rfl) (wA os))) ?_
  intro W base args ds gs before hval hW _ _ hwt hL _ _
  exact Dl H enc W base args ds gs before hval hW hL

theorem said : Rows.CostOwnSaid :=
  OpenClaim.holds_of_cond 12 Tryd.f12 rfl rfl rfl rfl rfl rfl rfl ⟨rfl, rfl, rfl, rfl, rfl⟩ rfl rfl rfl rfl rfl (by kernel_rfl) Tryd.func12 (by kernel_rfl)
    (of_decide_eq_true (by kernel_rfl)) (by unfold Func.isWrapper; first | (rw [if_pos (by decide +kernel)]; kernel_rfl) | (rw [if_neg (by decide +kernel)]; exact ⟨rfl, rfl⟩))
    (fun os started H enc _ F => by rw [OpenClaim.pre_eq_preRow]; exact Km os started H enc F)

/-- No parameter wants a stand-in; the program's own looks are off: what the card asks. -/
theorem HB (f : FuncId) (fn : Func) (hf : Tryd.pinned.checked.prog.funcNamed "winnow/winnowlaw10.CostOwn" = some f) (hfn : Tryd.pinned.checked.prog.funcs[f]? = some fn) :
    false = Tryd.pinned.checked.prog.looks [] ∧ ∀ (j : Nat) t, fn.params[j]? = some t → Tryd.pinned.checked.prog.wantsStandIn t = false := by
  obtain rfl : f = 12 := Option.some.inj ((show Tryd.prog.funcNamed "winnow/winnowlaw10.CostOwn" = some 12 by kernel_rfl).symm.trans hf) |>.symm
  obtain rfl : fn = Tryd.f12 := (Option.some.inj (Tryd.func12.symm.trans hfn)).symm
  refine ⟨by kernel_rfl, fun j t ht => ?_⟩
  rw [Tryd.params12] at ht
  have hm : t = 59 ∨ t = 28 := by have := Array.mem_of_getElem? ht; simpa using this
  rcases hm with rfl | rfl
  · exact (show Tryd.prog.wantsStandIn 59 = false by kernel_rfl)
  · exact (show Tryd.prog.wantsStandIn 28 = false by kernel_rfl)

theorem card : Rows.CostOwnCardSaid :=
  Claim7.holds_tied_plain_at .later [] _ _ _ _ said (fun _ h => by cases h) (by kernel_rfl) (fun _ h => by cases h) costOwn_row_tie rfl ⟨rfl, rfl⟩ (by kernel_rfl) rfl HB (by kernel_rfl)
end Go.Proofs.YtipekdhneagdbaaDoor.costOwn
