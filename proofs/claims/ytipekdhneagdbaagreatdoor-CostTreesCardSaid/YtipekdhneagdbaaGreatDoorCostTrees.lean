/- CostTrees: for every slice of rows and every list of numbers the law answers true, on every machine, whatever order is drawn: the shadow reading of the program and of the document, sound (the Sx texts), both telling what one J4o reading tells (the Nx and the Cx texts). -/
import Derived.Test.YtipekdhneagdbaaGreatDoorCards
import Derived.Test.YtipekdhneagdbaaGreatDoorTie
import Derived.WalkKit
import Derived.ProofKit
import Derived.OpenShut
import Derived.Deep.DeepHandedRow
import Derived.Test.YtipekdhneagdbaaGreatDoorCT26
namespace Go.Proofs.YtipekdhneagdbaaGreatDoor.costTrees
open Go.ChangeShapes Go.WideShapes Go.ChangeAt Go.RowKit Go.Sx
set_option maxRecDepth 100000

theorem own : ownKnob Tryz.prog.godebug = none := by kernel_rfl

theorem JeU (H : Type) (enc : TypeId × Value → H) (W : World) (base : Nat) (args : Array Value) (ds gs : List (DataW H)) (before : List MemPlace)
    (hval : ∀ (j : Nat) t v, Tryz.f4.params[j]? = some t → args[j]? = some v → Value.okWide Tryz.prog W .any base t v)
    (hW : DataW.Whole enc Tryz.prog Tryz.f4.params.toList Rows.costTreesSpec.vars false W args.toList ds gs before)
    (hL : laidMetH Tryz.prog Rows.costTreesRow.laid W) :
    Calls Tryz.prog 4 args W fun e W' => ∃ v, e = .returned v ∧ Rows.costTreesSpec.post enc Tryz.prog Tryz.f4 false true false false W args v W' := by
  have hW' := hW
  obtain ⟨p, q, hA0, hV, rfl, hfz, hnd⟩ := hW
  have hA : DataW.TrodAll enc Tryz.prog W 0 (fun _ => true) true Tryz.f4.params.toList args.toList ds p := hA0
  rw [Tryz.params4] at hA hval
  obtain ⟨v0, vs0, d0, ds0, p0, q0, hargs, rfl, rfl, h0, r0⟩ := trodAll_cons hA
  obtain ⟨v1, vs1, d1, ds1, p1, q1, rfl, rfl, rfl, h1, r1⟩ := trodAll_cons r0
  obtain ⟨rfl, rfl, rfl⟩ := trodAll_nil r1
  obtain rfl : args = #[v0, v1] := by cases args; simp_all
  obtain ⟨rfl, rfl⟩ := trodVars_none hV
  obtain ⟨l, hl64, hl⟩ := Jt1 (hval 0 22 v0 rfl rfl) h0
  obtain ⟨A, hA1⟩ := Jt0 (hval 1 25 v1 rfl rfl) h1
  obtain ⟨hp, ρ, sv, sw, hR, hw, hvr, hvi, hi, hwi, hfl, hg0, hn0⟩ := Jta hL hl hA1
  obtain ⟨h', hs, _⟩ := Jte (n := 400001) hi hwi (fun x hx => (hl64 x hx).2.2.2.2) (by rw [hfl]; omega) hg0 hn0 (by omega)
  have hcall := (J6m J2f (Jtb 400001).1 (Jtb 400001).2 400001).1 4 _ _ _ _ hs
  refine (hcall.2 ρ W #[v0, v1] hR (.cons hvr (.cons hvi .nil))).mono fun e W' ⟨V, ρ', he, hN, hv⟩ => ?_
  subst he
  obtain rfl := J3G hv
  have hb := (hN.fr.gr hw).below
  exact ⟨_, rfl, J87 (pa := p0 ++ (p1 ++ [])) (pv := []) hW' (fun _ _ _ => trodAll_cons_mk (shut_bool Tryz.underlying4 _) trodAll_mk0)
    (fun sp hsp => J7M hb _ _ _ _ (by kernel_rfl) hA (fun x hx => hW'.lt x (by simpa using hx)) (fun x hx => hsp x (by simpa using hx))) (fun _ _ => rfl) (by simp)
    hb (ok_one (by kernel_rfl) rfl (okWide_bool_mk Tryz.underlying4 _))⟩

/-- A world for the witness: the settled one, the words (block 0) holding what their initialiser lays. -/
noncomputable def J6x (os : Os) : World :=
  { World.holding Tryz.prog os ⟨#[], #[], []⟩ with heap := (World.holding Tryz.prog os ⟨#[], #[], []⟩).heap.modify 0 fun
      | .cells _ t frozen => .cells J5v.toArray t frozen
      | o => o }
theorem Jes (os : Os) : laidMet Tryz.prog Rows.costTreesRow.laid ((J6x os).forCall (fun _ _ => 0) ⟨#[], #[.slice none 0 0, .slice none 0 0], []⟩).memory :=
  laidMet_of_run' 8 (by kernel_rfl) (by kernel_rfl)
theorem J9l (os : Os) {H : Type} (enc : TypeId × Value → H) : ∃ J2Q, DataW.whole enc Tryz.prog ((J6x os).forCall (fun _ _ => 0) ⟨#[], #[.slice none 0 0, .slice none 0 0], []⟩).memory Tryz.f4.params.toList Rows.costTreesSpec.vars false #[Value.slice none 0 0, .slice none 0 0].toList 8 = some ([.nil, .nil], [], J2Q) :=
  ⟨[], by kernel_rfl⟩

theorem JhN (os : Os) (started : os.Started) (H : Type) (enc : TypeId × Value → H) (F : Stop.Interp) :
    ReturnsInHanded {} Tryz.checked os 4 .any ((OpenSpec.ofChange Rows.costTreesSpec).preRow enc Tryz.prog Tryz.f4 Rows.costTreesRow.domain false Rows.costTreesRow.laid) (((OpenSpec.ofChange Rows.costTreesSpec).at F).post enc Tryz.prog Tryz.f4 false true false false) := by
  obtain ⟨J2Q, hx⟩ := J9l os enc
  refine returnsInHanded_of_row (C := Tryz.checked) (s := OpenSpec.ofChange Rows.costTreesSpec) own started (by kernel_rfl) Tryz.func4
    (witness_row_at (enc := enc) (C := Tryz.checked) false (J6x os) #[.slice none 0 0, .slice none 0 0] rfl (by kernel_rfl) (by kernel_rfl) (by kernel_rfl)
      (OpenSpec.preRow_of_cond 8 hx (by kernel_rfl) (fun k hk => by cases hk) (by kernel_rfl) (Jes os))) ?_
  intro W base args ds gs before hval hW _ _ hwt hL _ _
  exact JeU H enc W base args ds gs before hval hW hL

theorem said : Rows.CostTreesSaid :=
  OpenClaim.holds_of_cond 4 Tryz.f4 rfl rfl rfl rfl rfl rfl rfl ⟨rfl, rfl, rfl, rfl, rfl⟩ rfl rfl rfl rfl rfl (by kernel_rfl) Tryz.func4 (by kernel_rfl)
    (of_decide_eq_true (by kernel_rfl)) (by unfold Func.isWrapper; first | (rw [if_pos (by decide +kernel)]; kernel_rfl) | (rw [if_neg (by decide +kernel)]; exact ⟨rfl, rfl⟩))
    (fun os started H enc _ F => by rw [OpenClaim.pre_eq_preRow]; exact JhN os started H enc F)

/-- No parameter wants a stand-in; the program's own looks are off: what the card asks. -/
theorem J4o (f : FuncId) (fn : Func) (hf : Tryz.pinned.checked.prog.funcNamed "winnow/winnowlaw10.CostTrees" = some f) (hfn : Tryz.pinned.checked.prog.funcs[f]? = some fn) :
    false = Tryz.pinned.checked.prog.looks [] ∧ ∀ (j : Nat) t, fn.params[j]? = some t → Tryz.pinned.checked.prog.wantsStandIn t = false := by
  obtain rfl : f = 4 := Option.some.inj ((show Tryz.prog.funcNamed "winnow/winnowlaw10.CostTrees" = some 4 by kernel_rfl).symm.trans hf) |>.symm
  obtain rfl : fn = Tryz.f4 := (Option.some.inj (Tryz.func4.symm.trans hfn)).symm
  refine ⟨by kernel_rfl, fun j t ht => ?_⟩
  rw [Tryz.params4] at ht
  have hm : t = 22 ∨ t = 25 := by have := Array.mem_of_getElem? ht; simpa using this
  rcases hm with rfl | rfl
  · exact (show Tryz.prog.wantsStandIn 22 = false by kernel_rfl)
  · exact (show Tryz.prog.wantsStandIn 25 = false by kernel_rfl)

theorem card : Rows.CostTreesCardSaid :=
  Claim7.holds_tied_plain_at .later [] _ _ _ _ said (fun _ h => by cases h) (by kernel_rfl) (fun _ h => by cases h) costTrees_row_tie rfl ⟨rfl, rfl⟩ (by kernel_rfl) rfl J4o (by kernel_rfl)
end Go.Proofs.YtipekdhneagdbaaGreatDoor.costTrees
