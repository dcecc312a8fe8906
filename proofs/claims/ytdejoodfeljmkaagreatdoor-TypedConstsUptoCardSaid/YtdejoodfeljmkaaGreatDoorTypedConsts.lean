/- TypedConsts: where what is read is of bulk at most 1048576 the law answers true, on every machine, whatever order is drawn: the shadow reading of the program and of the document, sound (the Sx texts), both telling what one J4o reading tells (the Nx and the Tx texts). -/
import Derived.Test.YtdejoodfeljmkaaGreatDoorCards
import Derived.Test.YtdejoodfeljmkaaGreatDoorTie
import Derived.WalkKit
import Derived.ProofKit
import Derived.OpenShut
import Derived.Deep.DeepHandedRow
import Derived.Test.YtdejoodfeljmkaaGreatDoorTC24
namespace Go.Proofs.YtdejoodfeljmkaaGreatDoor.typedConsts
open Go.ChangeShapes Go.WideShapes Go.ChangeAt Go.RowKit Go.Sx
set_option maxRecDepth 100000

theorem own : ownKnob Tryz.prog.godebug = none := by kernel_rfl

theorem JeU (H : Type) (enc : TypeId × Value → H) (W : World) (base : Nat) (args : Array Value) (ds gs : List (DataW H)) (before : List MemPlace)
    (hval : ∀ (j : Nat) t v, Tryz.f5.params[j]? = some t → args[j]? = some v → Value.okWide Tryz.prog W .any base t v)
    (hW : DataW.Whole enc Tryz.prog Tryz.f5.params.toList Rows.typedConstsSpec.vars false W args.toList ds gs before) (hk : Rows.uptoSmall H (ds ++ gs) = true)
    (hL : laidMetH Tryz.prog Rows.typedConstsUptoRow.laid W) :
    Calls Tryz.prog 5 args W fun e W' => ∃ v, e = .returned v ∧ Rows.typedConstsSpec.post enc Tryz.prog Tryz.f5 false true false false W args v W' := by
  have hW' := hW
  obtain ⟨p, q, hA0, hV, rfl, hfz, hnd⟩ := hW
  have hA : DataW.TrodAll enc Tryz.prog W 0 (fun _ => true) true Tryz.f5.params.toList args.toList ds p := hA0
  rw [Tryz.params5] at hA hval
  obtain ⟨v0, vs0, d0, ds0, p0, q0, hargs, rfl, rfl, h0, r0⟩ := trodAll_cons hA
  obtain ⟨v1, vs1, d1, ds1, p1, q1, rfl, rfl, rfl, h1, r1⟩ := trodAll_cons r0
  obtain ⟨v2, vs2, d2, ds2, p2, q2, rfl, rfl, rfl, h2, r2⟩ := trodAll_cons r1
  obtain ⟨rfl, rfl, rfl⟩ := trodAll_nil r2
  obtain rfl : args = #[v0, v1, v2] := by cases args; simp_all
  obtain ⟨rfl, rfl⟩ := trodVars_none hV
  obtain ⟨nm, s, hl⟩ := JrU (hval 0 27 v0 rfl rfl) h0
  have hb := Jrm hl h0
  obtain ⟨size, C, ht, hbc⟩ := JrG (hval 1 39 v1 rfl rfl) h1
  obtain ⟨row, rfl, rfl, rfl, w2⟩ := _root_.Go.ChangeShapes.open_int Tryz.underlying3 (hval 2 3 v2 rfl rfl) h2
  have hB : Rows.uptoBulk d0 + Rows.uptoBulk d1 ≤ 1048576 := by
    simp only [Rows.uptoSmall, decide_eq_true_eq, List.append_nil, Rows.uptoBulkAll] at hk
    omega
  obtain ⟨hp, ρ, sv, sw, hR, hw, hvr, hvt, hi, hti, hfl, hg0, hn0⟩ := Js4 hL hl ht
  obtain ⟨h', hs, _⟩ := JuA (n := 9000001) hi hti (fun x hx => (hl.rows x hx).2.2.2.2) (bounds_i64 w2) (by omega) (by omega) (by rw [hfl]; omega) hg0 hn0 (by omega)
  have hcall := (J6m J2f (Jqk 9000001).1 (Jqk 9000001).2 9000001).1 5 _ _ _ _ hs
  refine (hcall.2 ρ W #[v0, v1, .int .i64 row] hR (.cons hvr (.cons hvt (.cons (.flat rfl) .nil)))).mono fun e W' ⟨V, ρ', he, hN, hv⟩ => ?_
  subst he
  obtain rfl := J3G hv
  have hb := (hN.fr.gr hw).below
  exact ⟨_, rfl, J87 (pa := p0 ++ (p1 ++ ([] ++ []))) (pv := []) hW' (fun _ _ _ => trodAll_cons_mk (shut_bool Tryz.underlying4 _) trodAll_mk0)
    (fun sp hsp => J7M hb _ _ _ _ (by kernel_rfl) hA (fun x hx => hW'.lt x (by simpa using hx)) (fun x hx => hsp x (by simpa using hx))) (fun _ _ => rfl) (by simp)
    hb (ok_one (by kernel_rfl) rfl (okWide_bool_mk Tryz.underlying4 _))⟩

/-- The policy of the witness: of nothing. -/
abbrev Jrj : Value := .agg #[.string ⟨#[]⟩, .slice none 0 0, .slice none 0 0, .slice none 0 0, .slice none 0 0, .slice none 0 0, .slice none 0 0, .int .i64 0]
/-- Its capacities. -/
abbrev Jrw : Value := .agg #[.int .i64 0, .slice none 0 0]
/-- A world for the witness: the settled one, the words (block 0) holding what their initialiser lays. -/
noncomputable def J6x (os : Os) : World :=
  { World.holding Tryz.prog os ⟨#[], #[], []⟩ with heap := (World.holding Tryz.prog os ⟨#[], #[], []⟩).heap.modify 0 fun
      | .cells _ t frozen => .cells J5v.toArray t frozen
      | o => o }
theorem Jes (os : Os) : laidMet Tryz.prog Rows.typedConstsUptoRow.laid ((J6x os).forCall (fun _ _ => 0) ⟨#[], #[Jrj, Jrw, .int .i64 0], []⟩).memory :=
  laidMet_of_run' 8 (by kernel_rfl) (by kernel_rfl)
theorem J9l (os : Os) {H : Type} (enc : TypeId × Value → H) : ∃ J2Q, DataW.whole enc Tryz.prog ((J6x os).forCall (fun _ _ => 0) ⟨#[], #[Jrj, Jrw, .int .i64 0], []⟩).memory Tryz.f5.params.toList Rows.typedConstsSpec.vars false (#[Jrj, Jrw, .int .i64 0] : Array Value).toList 8 = some ([.agg [.lit (.string []), .nil, .nil, .nil, .nil, .nil, .nil, .lit (.int .i64 0)], .agg [.lit (.int .i64 0), .nil], .lit (.int .i64 0)], [], J2Q) :=
  ⟨[], by kernel_rfl⟩

theorem JhN (os : Os) (started : os.Started) (H : Type) (enc : TypeId × Value → H) (F : Stop.Interp) :
    ReturnsInHanded {} Tryz.checked os 5 .any ((Rows.OpenSpec.upto Rows.typedConstsSpec).preRow enc Tryz.prog Tryz.f5 Rows.typedConstsUptoRow.domain false Rows.typedConstsUptoRow.laid) (((Rows.OpenSpec.upto Rows.typedConstsSpec).at F).post enc Tryz.prog Tryz.f5 false true false false) := by
  obtain ⟨J2Q, hx⟩ := J9l os enc
  refine returnsInHanded_of_row (C := Tryz.checked) (s := Rows.OpenSpec.upto Rows.typedConstsSpec) own started (by kernel_rfl) Tryz.func5
    (witness_row_at (enc := enc) (C := Tryz.checked) false (J6x os) #[Jrj, Jrw, .int .i64 0] rfl (by kernel_rfl) (by kernel_rfl) (by kernel_rfl)
      (OpenSpec.preRow_of_cond 8 hx (by kernel_rfl) (fun k hk => by cases hk; kernel_rfl) (by kernel_rfl) (Jes os))) ?_
  intro W base args ds gs before hval hW _ hcond _ hL _ _
  exact JeU H enc W base args ds gs before hval hW (hcond _ rfl) hL

theorem said : Rows.TypedConstsUptoSaid :=
  OpenClaim.holds_of_cond 5 Tryz.f5 rfl rfl rfl rfl rfl rfl rfl ⟨rfl, rfl, rfl, rfl, rfl⟩ rfl rfl rfl rfl rfl (by kernel_rfl) Tryz.func5 (by kernel_rfl)
    (of_decide_eq_true (by kernel_rfl)) (by unfold Func.isWrapper; first | (rw [if_pos (by decide +kernel)]; kernel_rfl) | (rw [if_neg (by decide +kernel)]; exact ⟨rfl, rfl⟩))
    (fun os started H enc _ F => by rw [OpenClaim.pre_eq_preRow]; exact JhN os started H enc F)

/-- No parameter wants a stand-in; the looks are as the card has them. -/
theorem J4o (f : FuncId) (fn : Func) (hf : Tryz.pinned.checked.prog.funcNamed "winnow/winnowlaw8.TypedConsts" = some f) (hfn : Tryz.pinned.checked.prog.funcs[f]? = some fn) :
    true = Tryz.pinned.checked.prog.looks [] ∧ ∀ (j : Nat) t, fn.params[j]? = some t → Tryz.pinned.checked.prog.wantsStandIn t = false := by
  obtain rfl : f = 5 := Option.some.inj ((show Tryz.prog.funcNamed "winnow/winnowlaw8.TypedConsts" = some 5 by kernel_rfl).symm.trans hf) |>.symm
  obtain rfl : fn = Tryz.f5 := (Option.some.inj (Tryz.func5.symm.trans hfn)).symm
  refine ⟨by kernel_rfl, fun j t ht => ?_⟩
  rw [Tryz.params5] at ht
  have hm : t = 27 ∨ t = 39 ∨ t = 3 := by have := Array.mem_of_getElem? ht; simpa using this
  rcases hm with rfl | rfl | rfl
  · exact (show Tryz.prog.wantsStandIn 27 = false by kernel_rfl)
  · exact (show Tryz.prog.wantsStandIn 39 = false by kernel_rfl)
  · exact (show Tryz.prog.wantsStandIn 3 = false by kernel_rfl)

theorem card : Rows.TypedConstsUptoCardSaid :=
  Claim7.holds_tied_plain_at .later [] _ _ _ _ said (fun _ h => by cases h) (by kernel_rfl) (fun _ h => by cases h) typedConstsUpto_row_tie rfl ⟨rfl, rfl⟩ (by kernel_rfl) rfl J4o (by kernel_rfl)
end Go.Proofs.YtdejoodfeljmkaaGreatDoor.typedConsts
