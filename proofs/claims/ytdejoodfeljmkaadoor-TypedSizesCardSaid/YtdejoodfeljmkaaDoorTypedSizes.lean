/- TypedSizes: for every slice of rows, every capacities, every list of numbers and every number the law answers true, on every machine, whatever order is drawn: the shadow reading of the program sound (the Sx texts), telling what a plain reading tells (the Nx and the Tx texts). -/
import Derived.Test.YtdejoodfeljmkaaDoorCards
import Derived.Test.YtdejoodfeljmkaaDoorTie
import Derived.WalkKit
import Derived.ProofKit
import Derived.OpenShut
import Derived.Deep.DeepHandedRow
import Derived.Test.YtdejoodfeljmkaaDoorTZ12
namespace Go.Proofs.YtdejoodfeljmkaaDoor.typedSizes
open Go.ChangeShapes Go.WideShapes Go.ChangeAt Go.RowKit Go.Sx
set_option maxRecDepth 100000

theorem own : ownKnob Tryd.prog.godebug = none := by kernel_rfl

theorem Gc {H : Type} {a b c d : TypeId} {x y z w : DataW H} (h : (DataW.weightsEach Tryd.prog [a, b, c, d] [x, y, z, w]).all (· ≤ reachBytes) = true) : (DataW.weights Tryd.prog a x).all (· ≤ reachBytes) = true ∧ (DataW.weights Tryd.prog b y).all (· ≤ reachBytes) = true ∧ (DataW.weights Tryd.prog c z).all (· ≤ reachBytes) = true := by
  simp only [DataW.weightsEach, List.all_append, Bool.and_eq_true] at h
  exact ⟨h.1, h.2.1, h.2.2.1⟩

theorem wX (H : Type) (enc : TypeId × Value → H) (W : World) (base : Nat) (args : Array Value) (ds gs : List (DataW H)) (before : List MemPlace)
    (hval : ∀ (j : Nat) t v, Tryd.f5.params[j]? = some t → args[j]? = some v → Value.okWide Tryd.prog W .any base t v)
    (hW : DataW.Whole enc Tryd.prog Tryd.f5.params.toList Rows.typedSizesSpec.vars false W args.toList ds gs before)
    (hwt : (DataW.weightsEach Tryd.prog (Tryd.f5.params.toList ++ (OpenSpec.ofChange Rows.typedSizesSpec).bare.plain.varTypes Tryd.prog) (ds ++ gs)).all (· ≤ reachBytes) = true)
    (hL : laidMetH Tryd.prog Rows.typedSizesRow.laid W) :
    Calls Tryd.prog 5 args W fun e W' => ∃ v, e = .returned v ∧ Rows.typedSizesSpec.post enc Tryd.prog Tryd.f5 false true false false W args v W' := by
  have hW' := hW
  obtain ⟨p, q, hA0, hV, rfl, hfz, hnd⟩ := hW
  have hA : DataW.TrodAll enc Tryd.prog W 0 (fun _ => true) true Tryd.f5.params.toList args.toList ds p := hA0
  rw [Tryd.params5] at hA hval
  obtain ⟨v0, vs0, d0, ds0, p0, q0, hargs, rfl, rfl, h0, r0⟩ := trodAll_cons hA
  obtain ⟨v1, vs1, d1, ds1, p1, q1, rfl, rfl, rfl, h1, r1⟩ := trodAll_cons r0
  obtain ⟨v2, vs2, d2, ds2, p2, q2, rfl, rfl, rfl, h2, r2⟩ := trodAll_cons r1
  obtain ⟨v3, vs3, d3, ds3, p3, q3, rfl, rfl, rfl, h3, r3⟩ := trodAll_cons r2
  obtain ⟨rfl, rfl, rfl⟩ := trodAll_nil r3
  obtain rfl : args = #[v0, v1, v2, v3] := by cases args; simp_all
  obtain ⟨rfl, rfl⟩ := trodVars_none hV
  obtain ⟨hw0, hw1, hw2⟩ := Gc hwt
  obtain ⟨l, _, hl⟩ := Cy (hval 0 26 v0 rfl rfl) h0
  obtain ⟨size, C, hC1, hCw⟩ := Bf (hval 1 29 v1 rfl rfl) h1
  obtain ⟨B, hB1⟩ := Ia (hval 2 27 v2 rfl rfl) h2
  obtain ⟨sz, rfl⟩ := okWide_int Tryd.underlying3 (hval 3 3 v3 rfl rfl)
  obtain ⟨hp, ρ, sv, sw, su, hR, hw, hvr, hvi, hvu, hi, ha, hui, hfl, hg0, hn0⟩ := Bj hL hl hC1 hB1
  obtain ⟨h', hs, _⟩ := Ed (n := 1000000000000000) (sz := sz) hi ha hui (qC hl h0 hw0) (hCw hw1) (by rw [hfl]; omega) hg0 hn0 (by omega)
  have hcall := (Q9 IU (bG 1000000000000000).1 (bG 1000000000000000).2 1000000000000000).1 5 _ _ _ _ hs
  refine (hcall.2 ρ W #[v0, v1, v2, .int .i64 sz] hR (.cons hvr (.cons hvi (.cons hvu (.cons (.flat rfl) .nil))))).mono fun e W' ⟨V, ρ', he, hN, hv⟩ => ?_
  subst he
  obtain rfl := O9 hv
  have hb := (hN.fr.gr hw).below
  exact ⟨_, rfl, q_ (pa := p0 ++ (p1 ++ (p2 ++ (p3 ++ [])))) (pv := []) hW' (fun _ _ _ => trodAll_cons_mk (shut_bool Tryd.underlying4 _) trodAll_mk0)
    (fun sp hsp => Cv hb _ _ _ _ (by kernel_rfl) hA (fun x hx => hW'.lt x (by simpa using hx)) (fun x hx => hsp x (by simpa using hx))) (fun _ _ => rfl) (by simp)
    hb (ok_one (by kernel_rfl) rfl (okWide_bool_mk Tryd.underlying4 _))⟩

/-- The witness's capacities. -/
abbrev UU : Value := .agg #[.int .i64 0, .slice none 0 0]
/-- A world for the witness: the settled one, the words (block 0) holding what their initialiser lays. -/
noncomputable def ZL (os : Os) : World :=
  { World.holding Tryd.prog os ⟨#[], #[], []⟩ with heap := (World.holding Tryd.prog os ⟨#[], #[], []⟩).heap.modify 0 fun
      | .cells _ t frozen => .cells K6.toArray t frozen
      | o => o }
theorem Gz (os : Os) : laidMet Tryd.prog Rows.typedSizesRow.laid ((ZL os).forCall (fun _ _ => 0) ⟨#[], #[.slice none 0 0, UU, .slice none 0 0, .int .i64 0], []⟩).memory :=
  laidMet_of_run' 8 (by kernel_rfl) (by kernel_rfl)
theorem M9 (os : Os) {H : Type} (enc : TypeId × Value → H) : ∃ H0, DataW.whole enc Tryd.prog ((ZL os).forCall (fun _ _ => 0) ⟨#[], #[.slice none 0 0, UU, .slice none 0 0, .int .i64 0], []⟩).memory Tryd.f5.params.toList Rows.typedSizesSpec.vars false (#[.slice none 0 0, UU, .slice none 0 0, .int .i64 0] : Array Value).toList 8 = some ([.nil, .agg [.lit (.int .i64 0), .nil], .nil, .lit (.int .i64 0)], [], H0) :=
  ⟨[], by kernel_rfl⟩

theorem rU (os : Os) (started : os.Started) (H : Type) (enc : TypeId × Value → H) (F : Stop.Interp) :
    ReturnsInHanded {} Tryd.checked os 5 .any ((OpenSpec.ofChange Rows.typedSizesSpec).preRow enc Tryd.prog Tryd.f5 Rows.typedSizesRow.domain false Rows.typedSizesRow.laid) (((OpenSpec.ofChange Rows.typedSizesSpec).at F).post enc Tryd.prog Tryd.f5 false true false false) := by
  obtain ⟨H0, hx⟩ := M9 os enc
  refine returnsInHanded_of_row (C := Tryd.checked) (s := OpenSpec.ofChange Rows.typedSizesSpec) own started (by kernel_rfl) Tryd.func5
    (witness_row_at (enc := enc) (C := Tryd.checked) false (ZL os) #[.slice none 0 0, UU, .slice none 0 0, .int .i64 0] rfl (by kernel_rfl) (by kernel_rfl) (by kernel_rfl)
      (OpenSpec.preRow_of_cond 8 hx (by kernel_rfl) (fun k hk => by cases hk) (by kernel_rfl) (Gz os))) ?_
  intro W base args ds gs before hval hW _ _ hwt hL _ _
  exact wX H enc W base args ds gs before hval hW hwt hL

theorem said : Rows.TypedSizesSaid :=
  OpenClaim.holds_of_cond 5 Tryd.f5 rfl rfl rfl rfl rfl rfl rfl ⟨rfl, rfl, rfl, rfl, rfl⟩ rfl rfl rfl rfl rfl (by kernel_rfl) Tryd.func5 (by kernel_rfl)
    (of_decide_eq_true (by kernel_rfl)) (by unfold Func.isWrapper; first | (rw [if_pos (by decide +kernel)]; kernel_rfl) | (rw [if_neg (by decide +kernel)]; exact ⟨rfl, rfl⟩))
    (fun os started H enc _ F => by rw [OpenClaim.pre_eq_preRow]; exact rU os started H enc F)

/-- No parameter wants a stand-in; the looks are as the card has them. -/
theorem plain (f : FuncId) (fn : Func) (hf : Tryd.pinned.checked.prog.funcNamed "winnow/winnowlaw8.TypedSizes" = some f) (hfn : Tryd.pinned.checked.prog.funcs[f]? = some fn) :
    true = Tryd.pinned.checked.prog.looks [] ∧ ∀ (j : Nat) t, fn.params[j]? = some t → Tryd.pinned.checked.prog.wantsStandIn t = false := by
  obtain rfl : f = 5 := Option.some.inj ((show Tryd.prog.funcNamed "winnow/winnowlaw8.TypedSizes" = some 5 by kernel_rfl).symm.trans hf) |>.symm
  obtain rfl : fn = Tryd.f5 := (Option.some.inj (Tryd.func5.symm.trans hfn)).symm
  refine ⟨by kernel_rfl, fun j t ht => ?_⟩
  rw [Tryd.params5] at ht
  have hm : t = 26 ∨ t = 29 ∨ t = 27 ∨ t = 3 := by have := Array.mem_of_getElem? ht; simpa using this
  rcases hm with rfl | rfl | rfl | rfl
  · exact (show Tryd.prog.wantsStandIn 26 = false by kernel_rfl)
  · exact (show Tryd.prog.wantsStandIn 29 = false by kernel_rfl)
  · exact (show Tryd.prog.wantsStandIn 27 = false by kernel_rfl)
  · exact (show Tryd.prog.wantsStandIn 3 = false by kernel_rfl)

theorem card : Rows.TypedSizesCardSaid :=
  Claim7.holds_tied_plain_at .later [] _ _ _ _ said (fun _ h => by cases h) (by kernel_rfl) (fun _ h => by cases h) typedSizes_row_tie rfl ⟨rfl, rfl⟩ (by kernel_rfl) rfl plain (by kernel_rfl)
end Go.Proofs.YtdejoodfeljmkaaDoor.typedSizes
