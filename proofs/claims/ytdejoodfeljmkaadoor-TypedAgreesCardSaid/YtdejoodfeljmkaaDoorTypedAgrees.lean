/- TypedAgrees: for every slice of rows and every capacities the law answers true, on every machine, whatever order is drawn: the shadow reading of the program sound (the Sx texts), telling what a plain reading tells (the Nx and the Tx texts). -/
import Derived.Test.YtdejoodfeljmkaaDoorCards
import Derived.Test.YtdejoodfeljmkaaDoorTie
import Derived.WalkKit
import Derived.ProofKit
import Derived.OpenShut
import Derived.Deep.DeepHandedRow
import Derived.Test.YtdejoodfeljmkaaDoorTY12
namespace Go.Proofs.YtdejoodfeljmkaaDoor.typedAgrees
open Go.ChangeShapes Go.WideShapes Go.ChangeAt Go.RowKit Go.Sx
set_option maxRecDepth 100000

theorem own : ownKnob Tryd.prog.godebug = none := by kernel_rfl

theorem zA {H : Type} {a b : TypeId} {x y : DataW H} (h : (DataW.weightsEach Tryd.prog [a, b] [x, y]).all (· ≤ reachBytes) = true) : (DataW.weights Tryd.prog a x).all (· ≤ reachBytes) = true ∧ (DataW.weights Tryd.prog b y).all (· ≤ reachBytes) = true := by
  simp only [DataW.weightsEach, List.all_append, Bool.and_eq_true] at h
  exact ⟨h.1, h.2.1⟩

theorem uO (H : Type) (enc : TypeId × Value → H) (W : World) (base : Nat) (args : Array Value) (ds gs : List (DataW H)) (before : List MemPlace)
    (hval : ∀ (j : Nat) t v, Tryd.f6.params[j]? = some t → args[j]? = some v → Value.okWide Tryd.prog W .any base t v)
    (hW : DataW.Whole enc Tryd.prog Tryd.f6.params.toList Rows.typedAgreesSpec.vars false W args.toList ds gs before)
    (hwt : (DataW.weightsEach Tryd.prog (Tryd.f6.params.toList ++ (OpenSpec.ofChange Rows.typedAgreesSpec).bare.plain.varTypes Tryd.prog) (ds ++ gs)).all (· ≤ reachBytes) = true)
    (hL : laidMetH Tryd.prog Rows.typedAgreesRow.laid W) :
    Calls Tryd.prog 6 args W fun e W' => ∃ v, e = .returned v ∧ Rows.typedAgreesSpec.post enc Tryd.prog Tryd.f6 false true false false W args v W' := by
  have hW' := hW
  obtain ⟨p, q, hA0, hV, rfl, hfz, hnd⟩ := hW
  have hA : DataW.TrodAll enc Tryd.prog W 0 (fun _ => true) true Tryd.f6.params.toList args.toList ds p := hA0
  rw [Tryd.params6] at hA hval
  obtain ⟨v0, vs0, d0, ds0, p0, q0, hargs, rfl, rfl, h0, r0⟩ := trodAll_cons hA
  obtain ⟨v1, vs1, d1, ds1, p1, q1, rfl, rfl, rfl, h1, r1⟩ := trodAll_cons r0
  obtain ⟨rfl, rfl, rfl⟩ := trodAll_nil r1
  obtain rfl : args = #[v0, v1] := by cases args; simp_all
  obtain ⟨rfl, rfl⟩ := trodVars_none hV
  obtain ⟨hw0, hw1⟩ := zA hwt
  obtain ⟨l, _, hl⟩ := yL (hval 0 26 v0 rfl rfl) h0
  obtain ⟨size, C, hC1, hCw⟩ := tZ (hval 1 29 v1 rfl rfl) h1
  obtain ⟨hp, ρ, sv, sw, su, hR, hw, hvr, hvi, hvu, hi, ha, hui, hfl, hg0, hn0⟩ := Ib hL hl hC1 (u := .slice none 0 0) (B := []) ⟨rfl, .inl ⟨rfl, rfl⟩⟩
  obtain ⟨h', hs, _⟩ := zR (n := 1000000000000000) hi ha (yB hl h0 hw0) (hCw hw1) (by rw [hfl]; omega) hg0 hn0 (by omega)
  have hcall := (RA I1 (XJ 1000000000000000).1 (XJ 1000000000000000).2 1000000000000000).1 6 _ _ _ _ hs
  refine (hcall.2 ρ W #[v0, v1] hR (.cons hvr (.cons hvi .nil))).mono fun e W' ⟨V, ρ', he, hN, hv⟩ => ?_
  subst he
  obtain rfl := PV hv
  have hb := (hN.fr.gr hw).below
  exact ⟨_, rfl, Gz (pa := p0 ++ (p1 ++ [])) (pv := []) hW' (fun _ _ _ => trodAll_cons_mk (shut_bool Tryd.underlying4 _) trodAll_mk0)
    (fun sp hsp => Ds hb _ _ _ _ (by kernel_rfl) hA (fun x hx => hW'.lt x (by simpa using hx)) (fun x hx => hsp x (by simpa using hx))) (fun _ _ => rfl) (by simp)
    hb (ok_one (by kernel_rfl) rfl (okWide_bool_mk Tryd.underlying4 _))⟩

/-- The witness's capacities. -/
abbrev VD : Value := .agg #[.int .i64 0, .slice none 0 0]
/-- A world for the witness: the settled one, the words (block 0) holding what their initialiser lays. -/
noncomputable def Y3 (os : Os) : World :=
  { World.holding Tryd.prog os ⟨#[], #[], []⟩ with heap := (World.holding Tryd.prog os ⟨#[], #[], []⟩).heap.modify 0 fun
      | .cells _ t frozen => .cells LT.toArray t frozen
      | o => o }
theorem Dj (os : Os) : laidMet Tryd.prog Rows.typedAgreesRow.laid ((Y3 os).forCall (fun _ _ => 0) ⟨#[], #[.slice none 0 0, VD], []⟩).memory :=
  laidMet_of_run' 8 (by kernel_rfl) (by kernel_rfl)
theorem NG (os : Os) {H : Type} (enc : TypeId × Value → H) : ∃ H_, DataW.whole enc Tryd.prog ((Y3 os).forCall (fun _ _ => 0) ⟨#[], #[.slice none 0 0, VD], []⟩).memory Tryd.f6.params.toList Rows.typedAgreesSpec.vars false (#[.slice none 0 0, VD] : Array Value).toList 8 = some ([.nil, .agg [.lit (.int .i64 0), .nil]], [], H_) :=
  ⟨[], by kernel_rfl⟩

theorem Fc (os : Os) (started : os.Started) (H : Type) (enc : TypeId × Value → H) (F : Stop.Interp) :
    ReturnsInHanded {} Tryd.checked os 6 .any ((OpenSpec.ofChange Rows.typedAgreesSpec).preRow enc Tryd.prog Tryd.f6 Rows.typedAgreesRow.domain false Rows.typedAgreesRow.laid) (((OpenSpec.ofChange Rows.typedAgreesSpec).at F).post enc Tryd.prog Tryd.f6 false true false false) := by
  obtain ⟨H_, hx⟩ := NG os enc
  refine returnsInHanded_of_row (C := Tryd.checked) (s := OpenSpec.ofChange Rows.typedAgreesSpec) own started (by kernel_rfl) Tryd.func6
    (witness_row_at (enc := enc) (C := Tryd.checked) false (Y3 os) #[.slice none 0 0, VD] rfl (by kernel_rfl) (by kernel_rfl) (by kernel_rfl)
      (OpenSpec.preRow_of_cond 8 hx (by kernel_rfl) (fun k hk => by cases hk) (by kernel_rfl) (Dj os))) ?_
  intro W base args ds gs before hval hW _ _ hwt hL _ _
  exact uO H enc W base args ds gs before hval hW hwt hL

theorem said : Rows.TypedAgreesSaid :=
  OpenClaim.holds_of_cond 6 Tryd.f6 rfl rfl rfl rfl rfl rfl rfl ⟨rfl, rfl, rfl, rfl, rfl⟩ rfl rfl rfl rfl rfl (by kernel_rfl) Tryd.func6 (by kernel_rfl)
    (of_decide_eq_true (by kernel_rfl)) (by unfold Func.isWrapper; first | (rw [if_pos (by decide +kernel)]; kernel_rfl) | (rw [if_neg (by decide +kernel)]; exact ⟨rfl, rfl⟩))
    (fun os started H enc _ F => by rw [OpenClaim.pre_eq_preRow]; exact Fc os started H enc F)

/-- No parameter wants a stand-in; the looks are as the card has them. -/
theorem plain (f : FuncId) (fn : Func) (hf : Tryd.pinned.checked.prog.funcNamed "winnow/winnowlaw8.TypedAgrees" = some f) (hfn : Tryd.pinned.checked.prog.funcs[f]? = some fn) :
    true = Tryd.pinned.checked.prog.looks [] ∧ ∀ (j : Nat) t, fn.params[j]? = some t → Tryd.pinned.checked.prog.wantsStandIn t = false := by
  obtain rfl : f = 6 := Option.some.inj ((show Tryd.prog.funcNamed "winnow/winnowlaw8.TypedAgrees" = some 6 by kernel_rfl).symm.trans hf) |>.symm
  obtain rfl : fn = Tryd.f6 := (Option.some.inj (Tryd.func6.symm.trans hfn)).symm
  refine ⟨by kernel_rfl, fun j t ht => ?_⟩
  rw [Tryd.params6] at ht
  have hm : t = 26 ∨ t = 29 := by have := Array.mem_of_getElem? ht; simpa using this
  rcases hm with rfl | rfl
  · exact (show Tryd.prog.wantsStandIn 26 = false by kernel_rfl)
  · exact (show Tryd.prog.wantsStandIn 29 = false by kernel_rfl)

theorem card : Rows.TypedAgreesCardSaid :=
  Claim7.holds_tied_plain_at .later [] _ _ _ _ said (fun _ h => by cases h) (by kernel_rfl) (fun _ h => by cases h) typedAgrees_row_tie rfl ⟨rfl, rfl⟩ (by kernel_rfl) rfl plain (by kernel_rfl)
end Go.Proofs.YtdejoodfeljmkaaDoor.typedAgrees
