/- TypedChecks: where what is read is of bulk at most 1048576 the law answers true, on every machine, whatever order is drawn: the shadow reading of the program and of the document, sound (the Sx texts), both telling what one GV reading tells (the Nx and the Tx texts). -/
import Derived.Test.YtdejoodfeljmkaaGreatDoorCards
import Derived.Test.YtdejoodfeljmkaaGreatDoorTie
import Derived.WalkKit
import Derived.ProofKit
import Derived.OpenShut
import Derived.Deep.DeepHandedRow
import Derived.Test.YtdejoodfeljmkaaGreatDoorTK15
namespace Go.Proofs.YtdejoodfeljmkaaGreatDoor.typedChecks
open Go.ChangeShapes Go.WideShapes Go.ChangeAt Go.RowKit Go.Sx
set_option maxRecDepth 100000

theorem own : ownKnob Tryz.prog.godebug = none := by kernel_rfl

theorem Da (H : Type) (enc : TypeId × Value → H) (W : World) (base : Nat) (args : Array Value) (ds gs : List (DataW H)) (before : List MemPlace)
    (hval : ∀ (j : Nat) t v, Tryz.f6.params[j]? = some t → args[j]? = some v → Value.okWide Tryz.prog W .any base t v)
    (hW : DataW.Whole enc Tryz.prog Tryz.f6.params.toList Rows.typedChecksSpec.vars false W args.toList ds gs before) (hk : Rows.uptoSmall H (ds ++ gs) = true)
    (hL : laidMetH Tryz.prog Rows.typedChecksUptoRow.laid W) :
    Calls Tryz.prog 6 args W fun e W' => ∃ v, e = .returned v ∧ Rows.typedChecksSpec.post enc Tryz.prog Tryz.f6 false true false false W args v W' := by
  have hW' := hW
  obtain ⟨p, q, hA0, hV, rfl, hfz, hnd⟩ := hW
  have hA : DataW.TrodAll enc Tryz.prog W 0 (fun _ => true) true Tryz.f6.params.toList args.toList ds p := hA0
  rw [Tryz.params6] at hA hval
  obtain ⟨v0, vs0, d0, ds0, p0, q0, hargs, rfl, rfl, h0, r0⟩ := trodAll_cons hA
  obtain ⟨v1, vs1, d1, ds1, p1, q1, rfl, rfl, rfl, h1, r1⟩ := trodAll_cons r0
  obtain ⟨rfl, rfl, rfl⟩ := trodAll_nil r1
  obtain rfl : args = #[v0, v1] := by cases args; simp_all
  obtain ⟨rfl, rfl⟩ := trodVars_none hV
  obtain ⟨nm, s, hl⟩ := Ks (hval 0 27 v0 rfl rfl) h0
  have hb := Hx hl h0
  obtain ⟨size, C, ht, hbc⟩ := Vd (hval 1 39 v1 rfl rfl) h1
  have hB : Rows.uptoBulk d0 + Rows.uptoBulk d1 ≤ 1048576 := by
    simp only [Rows.uptoSmall, decide_eq_true_eq, List.append_nil, Rows.uptoBulkAll] at hk
    omega
  obtain ⟨hp, ρ, sv, sw, hR, hw, hvr, hvt, hi, hti, hfl, hg0, hn0⟩ := Io hL hl ht
  obtain ⟨h', hs, _⟩ := Bw (n := 9000001) hi hti (fun x hx => (hl.rows x hx).2.2.2.2) (by omega) (by omega) (by rw [hfl]; omega) hg0 hn0 (by omega)
  have hcall := (SB KC (eB 9000001).1 (eB 9000001).2 9000001).1 6 _ _ _ _ hs
  refine (hcall.2 ρ W #[v0, v1] hR (.cons hvr (.cons hvt .nil))).mono fun e W' ⟨V, ρ', he, hN, hv⟩ => ?_
  subst he
  obtain rfl := Q_ hv
  have hb := (hN.fr.gr hw).below
  exact ⟨_, rfl, Bz (pa := p0 ++ (p1 ++ [])) (pv := []) hW' (fun _ _ _ => trodAll_cons_mk (shut_bool Tryz.underlying4 _) trodAll_mk0)
    (fun sp hsp => x_ hb _ _ _ _ (by kernel_rfl) hA (fun x hx => hW'.lt x (by simpa using hx)) (fun x hx => hsp x (by simpa using hx))) (fun _ _ => rfl) (by simp)
    hb (ok_one (by kernel_rfl) rfl (okWide_bool_mk Tryz.underlying4 _))⟩

/-- The policy of the witness: of nothing. -/
abbrev W3 : Value := .agg #[.string ⟨#[]⟩, .slice none 0 0, .slice none 0 0, .slice none 0 0, .slice none 0 0, .slice none 0 0, .slice none 0 0, .int .i64 0]
/-- Its capacities. -/
abbrev Y8 : Value := .agg #[.int .i64 0, .slice none 0 0]
/-- A world for the witness: the settled one, the words (block 0) holding what their initialiser lays. -/
noncomputable def bO (os : Os) : World :=
  { World.holding Tryz.prog os ⟨#[], #[], []⟩ with heap := (World.holding Tryz.prog os ⟨#[], #[], []⟩).heap.modify 0 fun
      | .cells _ t frozen => .cells M6.toArray t frozen
      | o => o }
theorem Ko (os : Os) : laidMet Tryz.prog Rows.typedChecksUptoRow.laid ((bO os).forCall (fun _ _ => 0) ⟨#[], #[W3, Y8], []⟩).memory :=
  laidMet_of_run' 8 (by kernel_rfl) (by kernel_rfl)
theorem OO (os : Os) {H : Type} (enc : TypeId × Value → H) : ∃ IC, DataW.whole enc Tryz.prog ((bO os).forCall (fun _ _ => 0) ⟨#[], #[W3, Y8], []⟩).memory Tryz.f6.params.toList Rows.typedChecksSpec.vars false (#[W3, Y8] : Array Value).toList 8 = some ([.agg [.lit (.string []), .nil, .nil, .nil, .nil, .nil, .nil, .lit (.int .i64 0)], .agg [.lit (.int .i64 0), .nil]], [], IC) :=
  ⟨[], by kernel_rfl⟩

theorem Oz (os : Os) (started : os.Started) (H : Type) (enc : TypeId × Value → H) (F : Stop.Interp) :
    ReturnsInHanded {} Tryz.checked os 6 .any ((Rows.OpenSpec.upto Rows.typedChecksSpec).preRow enc Tryz.prog Tryz.f6 Rows.typedChecksUptoRow.domain false Rows.typedChecksUptoRow.laid) (((Rows.OpenSpec.upto Rows.typedChecksSpec).at F).post enc Tryz.prog Tryz.f6 false true false false) := by
  obtain ⟨IC, hx⟩ := OO os enc
  refine returnsInHanded_of_row (C := Tryz.checked) (s := Rows.OpenSpec.upto Rows.typedChecksSpec) own started (by kernel_rfl) Tryz.func6
    (witness_row_at (enc := enc) (C := Tryz.checked) false (bO os) #[W3, Y8] rfl (by kernel_rfl) (by kernel_rfl) (by kernel_rfl)
      (OpenSpec.preRow_of_cond 8 hx (by kernel_rfl) (fun k hk => by cases hk; kernel_rfl) (by kernel_rfl) (Ko os))) ?_
  intro W base args ds gs before hval hW _ hcond _ hL _ _
  exact Da H enc W base args ds gs before hval hW (hcond _ rfl) hL

theorem said : Rows.TypedChecksUptoSaid :=
  OpenClaim.holds_of_cond 6 Tryz.f6 rfl rfl rfl rfl rfl rfl rfl ⟨rfl, rfl, rfl, rfl, rfl⟩ rfl rfl rfl rfl rfl (by kernel_rfl) Tryz.func6 (by kernel_rfl)
    (of_decide_eq_true (by kernel_rfl)) (by unfold Func.isWrapper; first | (rw [if_pos (by decide +kernel)]; kernel_rfl) | (rw [if_neg (by decide +kernel)]; exact ⟨rfl, rfl⟩))
    (fun os started H enc _ F => by rw [OpenClaim.pre_eq_preRow]; exact Oz os started H enc F)

/-- No parameter wants a stand-in; the looks are as the card has them. -/
theorem GV (f : FuncId) (fn : Func) (hf : Tryz.pinned.checked.prog.funcNamed "winnow/winnowlaw8.TypedChecks" = some f) (hfn : Tryz.pinned.checked.prog.funcs[f]? = some fn) :
    true = Tryz.pinned.checked.prog.looks [] ∧ ∀ (j : Nat) t, fn.params[j]? = some t → Tryz.pinned.checked.prog.wantsStandIn t = false := by
  obtain rfl : f = 6 := Option.some.inj ((show Tryz.prog.funcNamed "winnow/winnowlaw8.TypedChecks" = some 6 by kernel_rfl).symm.trans hf) |>.symm
  obtain rfl : fn = Tryz.f6 := (Option.some.inj (Tryz.func6.symm.trans hfn)).symm
  refine ⟨by kernel_rfl, fun j t ht => ?_⟩
  rw [Tryz.params6] at ht
  have hm : t = 27 ∨ t = 39 := by have := Array.mem_of_getElem? ht; simpa using this
  rcases hm with rfl | rfl
  · exact (show Tryz.prog.wantsStandIn 27 = false by kernel_rfl)
  · exact (show Tryz.prog.wantsStandIn 39 = false by kernel_rfl)

theorem card : Rows.TypedChecksUptoCardSaid :=
  Claim7.holds_tied_plain_at .later [] _ _ _ _ said (fun _ h => by cases h) (by kernel_rfl) (fun _ h => by cases h) typedChecksUpto_row_tie rfl ⟨rfl, rfl⟩ (by kernel_rfl) rfl GV (by kernel_rfl)
end Go.Proofs.YtdejoodfeljmkaaGreatDoor.typedChecks
