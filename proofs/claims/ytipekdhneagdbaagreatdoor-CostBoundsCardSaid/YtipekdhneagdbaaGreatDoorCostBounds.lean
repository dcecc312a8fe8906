/- CostBounds: for every policy and whatever typed tells the law answers true, on every machine, whatever order is drawn: the shadow reading of the program and of the document, sound (the Sx texts), both telling what one J4o reading tells (the Nx and the Cx texts). -/
import Derived.Test.YtipekdhneagdbaaGreatDoorCards
import Derived.Test.YtipekdhneagdbaaGreatDoorTie
import Derived.WalkKit
import Derived.ProofKit
import Derived.OpenShut
import Derived.Deep.DeepHandedRow
import Derived.Test.YtipekdhneagdbaaGreatDoorCB24
namespace Go.Proofs.YtipekdhneagdbaaGreatDoor.costBounds
open Go.ChangeShapes Go.WideShapes Go.ChangeAt Go.RowKit Go.Sx
set_option maxRecDepth 100000

theorem own : ownKnob Tryz.prog.godebug = none := by kernel_rfl

theorem JeU (H : Type) (enc : TypeId × Value → H) (W : World) (base : Nat) (args : Array Value) (ds gs : List (DataW H)) (before : List MemPlace)
    (hval : ∀ (j : Nat) t v, Tryz.f3.params[j]? = some t → args[j]? = some v → Value.okWide Tryz.prog W .any base t v)
    (hW : DataW.Whole enc Tryz.prog Tryz.f3.params.toList Rows.costBoundsSpec.vars false W args.toList ds gs before)
    (hL : laidMetH Tryz.prog Rows.costBoundsRow.laid W) :
    Calls Tryz.prog 3 args W fun e W' => ∃ v, e = .returned v ∧ Rows.costBoundsSpec.post enc Tryz.prog Tryz.f3 false true false false W args v W' := by
  have hW' := hW
  obtain ⟨p, q, hA0, hV, rfl, hfz, hnd⟩ := hW
  have hA : DataW.TrodAll enc Tryz.prog W 0 (fun _ => true) true Tryz.f3.params.toList args.toList ds p := hA0
  rw [Tryz.params3] at hA hval
  obtain ⟨v0, vs0, d0, ds0, p0, q0, hargs, rfl, rfl, h0, r0⟩ := trodAll_cons hA
  obtain ⟨v1, vs1, d1, ds1, p1, q1, rfl, rfl, rfl, h1, r1⟩ := trodAll_cons r0
  obtain ⟨rfl, rfl, rfl⟩ := trodAll_nil r1
  obtain rfl : args = #[v0, v1] := by cases args; simp_all
  obtain ⟨rfl, rfl⟩ := trodVars_none hV
  obtain ⟨nm, s, hl⟩ := JsV (hval 0 27 v0 rfl rfl) h0
  obtain ⟨V, G, rd, ht⟩ := JsP (hval 1 30 v1 rfl rfl) h1
  obtain ⟨hp, ρ, sv, sw, hR, hw, hvr, hvt, hi, hti, hfl, hg0, hn0⟩ := Jt7 hL hl ht
  obtain ⟨h', hs, _⟩ := Jr6 (n := 400001) hi hti (fun x hx => (hl.rows x hx).2.2.2.2) (by rw [hfl]; omega) hg0 hn0 (by omega)
  have hcall := (J6m J2f (Jrb 400001).1 (Jrb 400001).2 400001).1 3 _ _ _ _ hs
  refine (hcall.2 ρ W #[v0, v1] hR (.cons hvr (.cons hvt .nil))).mono fun e W' ⟨V, ρ', he, hN, hv⟩ => ?_
  subst he
  obtain rfl := J3G hv
  have hb := (hN.fr.gr hw).below
  exact ⟨_, rfl, J87 (pa := p0 ++ (p1 ++ [])) (pv := []) hW' (fun _ _ _ => trodAll_cons_mk (shut_bool Tryz.underlying4 _) trodAll_mk0)
    (fun sp hsp => J7M hb _ _ _ _ (by kernel_rfl) hA (fun x hx => hW'.lt x (by simpa using hx)) (fun x hx => hsp x (by simpa using hx))) (fun _ _ => rfl) (by simp)
    hb (ok_one (by kernel_rfl) rfl (okWide_bool_mk Tryz.underlying4 _))⟩

/-- The policy of the witness: of nothing. -/
abbrev Js8 : Value := .agg #[.string ⟨#[]⟩, .slice none 0 0, .slice none 0 0, .slice none 0 0, .slice none 0 0, .slice none 0 0, .slice none 0 0, .int .i64 0]
/-- What typed tells of it. -/
abbrev Jsc : Value := .agg #[.slice none 0 0, .slice none 0 0, .slice none 0 0]
/-- A world for the witness: the settled one, the words (block 0) holding what their initialiser lays. -/
noncomputable def J6x (os : Os) : World :=
  { World.holding Tryz.prog os ⟨#[], #[], []⟩ with heap := (World.holding Tryz.prog os ⟨#[], #[], []⟩).heap.modify 0 fun
      | .cells _ t frozen => .cells J5v.toArray t frozen
      | o => o }
theorem Jes (os : Os) : laidMet Tryz.prog Rows.costBoundsRow.laid ((J6x os).forCall (fun _ _ => 0) ⟨#[], #[Js8, Jsc], []⟩).memory :=
  laidMet_of_run' 8 (by kernel_rfl) (by kernel_rfl)
theorem J9l (os : Os) {H : Type} (enc : TypeId × Value → H) : ∃ J2Q, DataW.whole enc Tryz.prog ((J6x os).forCall (fun _ _ => 0) ⟨#[], #[Js8, Jsc], []⟩).memory Tryz.f3.params.toList Rows.costBoundsSpec.vars false #[Js8, Jsc].toList 8 = some ([.agg [.lit (.string []), .nil, .nil, .nil, .nil, .nil, .nil, .lit (.int .i64 0)], .agg [.nil, .nil, .nil]], [], J2Q) :=
  ⟨[], by kernel_rfl⟩

theorem JhN (os : Os) (started : os.Started) (H : Type) (enc : TypeId × Value → H) (F : Stop.Interp) :
    ReturnsInHanded {} Tryz.checked os 3 .any ((OpenSpec.ofChange Rows.costBoundsSpec).preRow enc Tryz.prog Tryz.f3 Rows.costBoundsRow.domain false Rows.costBoundsRow.laid) (((OpenSpec.ofChange Rows.costBoundsSpec).at F).post enc Tryz.prog Tryz.f3 false true false false) := by
  obtain ⟨J2Q, hx⟩ := J9l os enc
  refine returnsInHanded_of_row (C := Tryz.checked) (s := OpenSpec.ofChange Rows.costBoundsSpec) own started (by kernel_rfl) Tryz.func3
    (witness_row_at (enc := enc) (C := Tryz.checked) false (J6x os) #[Js8, Jsc] rfl (by kernel_rfl) (by kernel_rfl) (by kernel_rfl)
      (OpenSpec.preRow_of_cond 8 hx (by kernel_rfl) (fun k hk => by cases hk) (by kernel_rfl) (Jes os))) ?_
  intro W base args ds gs before hval hW _ _ hwt hL _ _
  exact JeU H enc W base args ds gs before hval hW hL

theorem said : Rows.CostBoundsSaid :=
  OpenClaim.holds_of_cond 3 Tryz.f3 rfl rfl rfl rfl rfl rfl rfl ⟨rfl, rfl, rfl, rfl, rfl⟩ rfl rfl rfl rfl rfl (by kernel_rfl) Tryz.func3 (by kernel_rfl)
    (of_decide_eq_true (by kernel_rfl)) (by unfold Func.isWrapper; first | (rw [if_pos (by decide +kernel)]; kernel_rfl) | (rw [if_neg (by decide +kernel)]; exact ⟨rfl, rfl⟩))
    (fun os started H enc _ F => by rw [OpenClaim.pre_eq_preRow]; exact JhN os started H enc F)

/-- No parameter wants a stand-in; the program's own looks are off: what the card asks. -/
theorem J4o (f : FuncId) (fn : Func) (hf : Tryz.pinned.checked.prog.funcNamed "winnow/winnowlaw10.CostBounds" = some f) (hfn : Tryz.pinned.checked.prog.funcs[f]? = some fn) :
    false = Tryz.pinned.checked.prog.looks [] ∧ ∀ (j : Nat) t, fn.params[j]? = some t → Tryz.pinned.checked.prog.wantsStandIn t = false := by
  obtain rfl : f = 3 := Option.some.inj ((show Tryz.prog.funcNamed "winnow/winnowlaw10.CostBounds" = some 3 by kernel_rfl).symm.trans hf) |>.symm
  obtain rfl : fn = Tryz.f3 := (Option.some.inj (Tryz.func3.symm.trans hfn)).symm
  refine ⟨by kernel_rfl, fun j t ht => ?_⟩
  rw [Tryz.params3] at ht
  have hm : t = 27 ∨ t = 30 := by have := Array.mem_of_getElem? ht; simpa using this
  rcases hm with rfl | rfl
  · exact (show Tryz.prog.wantsStandIn 27 = false by kernel_rfl)
  · exact (show Tryz.prog.wantsStandIn 30 = false by kernel_rfl)

theorem card : Rows.CostBoundsCardSaid :=
  Claim7.holds_tied_plain_at .later [] _ _ _ _ said (fun _ h => by cases h) (by kernel_rfl) (fun _ h => by cases h) costBounds_row_tie rfl ⟨rfl, rfl⟩ (by kernel_rfl) rfl J4o (by kernel_rfl)
end Go.Proofs.YtipekdhneagdbaaGreatDoor.costBounds
