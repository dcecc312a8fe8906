/- NamesOwn: for every list of slices of rows the law answers true, on every machine, whatever order is drawn: the shadow reading of the program and of the document, sound (the Sx texts), both telling what one G3 reading tells (the Nx texts). -/
import Derived.Test.YtipekdhneagdbaaDoorCards
import Derived.Test.YtipekdhneagdbaaDoorTie
import Derived.WalkKit
import Derived.ProofKit
import Derived.OpenShut
import Derived.Deep.DeepHandedRow
import Derived.Test.YtipekdhneagdbaaDoorNO13
namespace Go.Proofs.YtipekdhneagdbaaDoor.namesOwn
open Go.ChangeShapes Go.WideShapes Go.ChangeAt Go.RowKit Go.Sx
set_option maxRecDepth 100000

theorem own : ownKnob Tryd.prog.godebug = none := by kernel_rfl

theorem Gj (H : Type) (enc : TypeId × Value → H) (W : World) (base : Nat) (args : Array Value) (ds gs : List (DataW H)) (before : List MemPlace)
    (hval : ∀ (j : Nat) t v, Tryd.f10.params[j]? = some t → args[j]? = some v → Value.okWide Tryd.prog W .any base t v)
    (hW : DataW.Whole enc Tryd.prog Tryd.f10.params.toList Rows.namesOwnSpec.vars false W args.toList ds gs before)
    (hL : laidMetH Tryd.prog Rows.namesOwnRow.laid W) :
    Calls Tryd.prog 10 args W fun e W' => ∃ v, e = .returned v ∧ Rows.namesOwnSpec.post enc Tryd.prog Tryd.f10 false true false false W args v W' := by
  have hW' := hW
  obtain ⟨p, q, hA0, hV, rfl, hfz, hnd⟩ := hW
  have hA : DataW.TrodAll enc Tryd.prog W 0 (fun _ => true) true Tryd.f10.params.toList args.toList ds p := hA0
  rw [Tryd.params10] at hA hval
  obtain ⟨v0, vs0, d0, ds0, p0, q0, hargs, rfl, rfl, h0, r0⟩ := trodAll_cons hA
  obtain ⟨rfl, rfl, rfl⟩ := trodAll_nil r0
  obtain rfl : args = #[v0] := by cases args; simp_all
  obtain ⟨rfl, rfl⟩ := trodVars_none hV
  obtain ⟨L, hq, hl⟩ := xQ (hval 0 59 v0 rfl rfl) h0
  obtain ⟨hp, ρ, sv, sw, S, hR, hw, hvr, hvi, hSl, hS, hsv, hsw, hfl, hg0, hn0⟩ := rX hL hl (fun x hx => (hq x hx).1) (w := Z0) (A := []) ⟨rfl, .inl ⟨rfl, rfl⟩⟩
  obtain ⟨h', hs, _⟩ := rL (n := 9000001) hsv hSl hS (fun x hx r hr => ((hq x hx).2 r hr).2.2.2.2) (by rw [hfl]; omega) hg0 hn0 (by omega)
  have hcall := (PV JG (cT 9000001).1 (cT 9000001).2 9000001).1 10 _ _ _ _ hs
  refine (hcall.2 ρ W #[v0] hR (.cons hvr .nil)).mono fun e W' ⟨V, ρ', he, hN, hv⟩ => ?_
  subst he
  obtain rfl := O1 hv
  have hb := (hN.fr.gr hw).below
  exact ⟨_, rfl, xY (pa := p0 ++ []) (pv := []) hW' (fun _ _ _ => trodAll_cons_mk (shut_bool Tryd.underlying4 _) trodAll_mk0)
    (fun sp hsp => Gz hb _ _ _ _ (by kernel_rfl) hA (fun x hx => hW'.lt x (by simpa using hx)) (fun x hx => hsp x (by simpa using hx))) (fun _ _ => rfl) (by simp)
    hb (ok_one (by kernel_rfl) rfl (okWide_bool_mk Tryd.underlying4 _))⟩

/-- A world for the witness: the settled one, the words (block 0) holding what their initialiser lays. -/
noncomputable def b9 (os : Os) : World :=
  { World.holding Tryd.prog os ⟨#[], #[], []⟩ with heap := (World.holding Tryd.prog os ⟨#[], #[], []⟩).heap.modify 0 fun
      | .cells _ t frozen => .cells KB.toArray t frozen
      | o => o }
theorem qX (os : Os) : laidMet Tryd.prog Rows.namesOwnRow.laid ((b9 os).forCall (fun _ _ => 0) ⟨#[], #[Z0], []⟩).memory :=
  laidMet_of_run' 8 (by kernel_rfl) (by kernel_rfl)
theorem L7 (os : Os) {H : Type} (enc : TypeId × Value → H) : ∃ G6, DataW.whole enc Tryd.prog ((b9 os).forCall (fun _ _ => 0) ⟨#[], #[Z0], []⟩).memory Tryd.f10.params.toList Rows.namesOwnSpec.vars false #[Z0].toList 8 = some ([.nil], [], G6) :=
  ⟨[], by kernel_rfl⟩

theorem uG (os : Os) (started : os.Started) (H : Type) (enc : TypeId × Value → H) (F : Stop.Interp) :
    ReturnsInHanded {} Tryd.checked os 10 .any ((OpenSpec.ofChange Rows.namesOwnSpec).preRow enc Tryd.prog Tryd.f10 Rows.namesOwnRow.domain false Rows.namesOwnRow.laid) (((OpenSpec.ofChange Rows.namesOwnSpec).at F).post enc Tryd.prog Tryd.f10 false true false false) := by
  obtain ⟨G6, hx⟩ := L7 os enc
  refine returnsInHanded_of_row (C := Tryd.checked) (s := OpenSpec.ofChange Rows.namesOwnSpec) own started (by kernel_rfl) Tryd.func10
    (witness_row_at (enc := enc) (C := Tryd.checked) false (b9 os) #[Z0] rfl (by kernel_rfl) (by kernel_rfl) (by kernel_rfl)
      (OpenSpec.preRow_of_cond 8 hx (by kernel_rfl) (fun k hk => by cases hk) (by kernel_rfl) (qX os))) ?_
  intro W base args ds gs before hval hW _ _ hwt hL _ _
  exact Gj H enc W base args ds gs before hval hW hL

theorem said : Rows.NamesOwnSaid :=
  OpenClaim.holds_of_cond 10 Tryd.f10 rfl rfl rfl rfl rfl rfl rfl ⟨rfl, rfl, rfl, rfl, rfl⟩ rfl rfl rfl rfl rfl (by kernel_rfl) Tryd.func10 (by kernel_rfl)
    (of_decide_eq_true (by kernel_rfl)) (by unfold Func.isWrapper; first | (rw [if_pos (by decide +kernel)]; kernel_rfl) | (rw [if_neg (by decide +kernel)]; exact ⟨rfl, rfl⟩))
    (fun os started H enc _ F => by rw [OpenClaim.pre_eq_preRow]; exact uG os started H enc F)

/-- No parameter wants a stand-in; the program's own looks are off: what the card asks. -/
theorem G3 (f : FuncId) (fn : Func) (hf : Tryd.pinned.checked.prog.funcNamed "winnow/winnowlaw7.NamesOwn" = some f) (hfn : Tryd.pinned.checked.prog.funcs[f]? = some fn) :
    false = Tryd.pinned.checked.prog.looks [] ∧ ∀ (j : Nat) t, fn.params[j]? = some t → Tryd.pinned.checked.prog.wantsStandIn t = false := by
  obtain rfl : f = 10 := Option.some.inj ((show Tryd.prog.funcNamed "winnow/winnowlaw7.NamesOwn" = some 10 by kernel_rfl).symm.trans hf) |>.symm
  obtain rfl : fn = Tryd.f10 := (Option.some.inj (Tryd.func10.symm.trans hfn)).symm
  refine ⟨by kernel_rfl, fun j t ht => ?_⟩
  rw [Tryd.params10] at ht
  have hm : t = 59 := by have := Array.mem_of_getElem? ht; simpa using this
  subst hm
  exact (show Tryd.prog.wantsStandIn 59 = false by kernel_rfl)

theorem card : Rows.NamesOwnCardSaid :=
  Claim7.holds_tied_plain_at .later [] _ _ _ _ said (fun _ h => by cases h) (by kernel_rfl) (fun _ h => by cases h) namesOwn_row_tie rfl ⟨rfl, rfl⟩ (by kernel_rfl) rfl G3 (by kernel_rfl)
end Go.Proofs.YtipekdhneagdbaaDoor.namesOwn
