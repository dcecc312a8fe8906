/- TypedOwn: for every slice of rows, every capacities and every number the law answers true, on every machine, whatever order is drawn: the shadow reading of the program sound (the Sx texts), telling what a plain reading tells (the Nx and the Tx texts). -/
import Derived.Test.YtdejoodfeljmkaaDoorCards
import Derived.Test.YtdejoodfeljmkaaDoorTie
import Derived.WalkKit
import Derived.ProofKit
import Derived.OpenShut
import Derived.Deep.DeepHandedRow
import Derived.Test.YtdejoodfeljmkaaDoorTO12
namespace Go.Proofs.YtdejoodfeljmkaaDoor.typedOwn
open Go.ChangeShapes Go.WideShapes Go.ChangeAt Go.RowKit Go.Sx
set_option maxRecDepth 100000

theorem own : ownKnob Tryd.prog.godebug = none := by kernel_rfl

theorem xC {H : Type} {a b c : TypeId} {x y z : DataW H} (h : (DataW.weightsEach Tryd.prog [a, b, c] [x, y, z]).all (· ≤ reachBytes) = true) : (DataW.weights Tryd.prog a x).all (· ≤ reachBytes) = true ∧ (DataW.weights Tryd.prog b y).all (· ≤ reachBytes) = true := by
  simp only [DataW.weightsEach, List.all_append, Bool.and_eq_true] at h
  exact ⟨h.1, h.2.1⟩

theorem xM (H : Type) (enc : TypeId × Value → H) (W : World) (base : Nat) (args : Array Value) (ds gs : List (DataW H)) (before : List MemPlace)
    (hval : ∀ (j : Nat) t v, Tryd.f7.params[j]? = some t → args[j]? = some v → Value.okWide Tryd.prog W .any base t v)
    (hW : DataW.Whole enc Tryd.prog Tryd.f7.params.toList Rows.typedOwnSpec.vars false W args.toList ds gs before)
    (hwt : (DataW.weightsEach Tryd.prog (Tryd.f7.params.toList ++ (OpenSpec.ofChange Rows.typedOwnSpec).bare.plain.varTypes Tryd.prog) (ds ++ gs)).all (· ≤ reachBytes) = true)
    (hL : laidMetH Tryd.prog Rows.typedOwnRow.laid W) :
    Calls Tryd.prog 7 args W fun e W' => ∃ v, e = .returned v ∧ Rows.typedOwnSpec.post enc Tryd.prog Tryd.f7 false true false false W args v W' := by
  have hW' := hW
  obtain ⟨p, q, hA0, hV, rfl, hfz, hnd⟩ := hW
  have hA : DataW.TrodAll enc Tryd.prog W 0 (fun _ => true) true Tryd.f7.params.toList args.toList ds p := hA0
  rw [Tryd.params7] at hA hval
  obtain ⟨v0, vs0, d0, ds0, p0, q0, hargs, rfl, rfl, h0, r0⟩ := trodAll_cons hA
  obtain ⟨v1, vs1, d1, ds1, p1, q1, rfl, rfl, rfl, h1, r1⟩ := trodAll_cons r0
  obtain ⟨v2, vs2, d2, ds2, p2, q2, rfl, rfl, rfl, h2, r2⟩ := trodAll_cons r1
  obtain ⟨rfl, rfl, rfl⟩ := trodAll_nil r2
  obtain rfl : args = #[v0, v1, v2] := by cases args; simp_all
  obtain ⟨rfl, rfl⟩ := trodVars_none hV
  obtain ⟨hw0, hw1⟩ := xC hwt
  obtain ⟨l, _, hl⟩ := Cu (hval 0 26 v0 rfl rfl) h0
  obtain ⟨size, C, hC1, hCw⟩ := uQ (hval 1 29 v1 rfl rfl) h1
  obtain ⟨sz, rfl⟩ := okWide_int Tryd.underlying3 (hval 2 3 v2 rfl rfl)
  obtain ⟨hp, ρ, sv, sw, su, hR, hw, hvr, hvi, hvu, hi, ha, hui, hfl, hg0, hn0⟩ := Na hL hl hC1 (u := .slice none 0 0) (B := []) ⟨rfl, .inl ⟨rfl, rfl⟩⟩
  obtain ⟨h', hs, _⟩ := Mm (n := 1000000000000000) (x := sz) hi ha (Nm hl h0 hw0) (hCw hw1) (by rw [hfl]; omega) hg0 hn0 (by omega)
  have hcall := (SE JG (T7 1000000000000000).1 (T7 1000000000000000).2 1000000000000000).1 7 _ _ _ _ hs
  refine (hcall.2 ρ W #[v0, v1, .int .i64 sz] hR (.cons hvr (.cons hvi (.cons (.flat rfl) .nil)))).mono fun e W' ⟨V, ρ', he, hN, hv⟩ => ?_
  subst he
  obtain rfl := QW hv
  have hb := (hN.fr.gr hw).below
  exact ⟨_, rfl, Bk (pa := p0 ++ (p1 ++ (p2 ++ []))) (pv := []) hW' (fun _ _ _ => trodAll_cons_mk (shut_bool Tryd.underlying4 _) trodAll_mk0)
    (fun sp hsp => Cz hb _ _ _ _ (by kernel_rfl) hA (fun x hx => hW'.lt x (by simpa using hx)) (fun x hx => hsp x (by simpa using hx))) (fun _ _ => rfl) (by simp)
    hb (ok_one (by kernel_rfl) rfl (okWide_bool_mk Tryd.underlying4 _))⟩

/-- The witness's capacities. -/
abbrev XX : Value := .agg #[.int .i64 0, .slice none 0 0]
/-- A world for the witness: the settled one, the words (block 0) holding what their initialiser lays. -/
noncomputable def YL (os : Os) : World :=
  { World.holding Tryd.prog os ⟨#[], #[], []⟩ with heap := (World.holding Tryd.prog os ⟨#[], #[], []⟩).heap.modify 0 fun
      | .cells _ t frozen => .cells LJ.toArray t frozen
      | o => o }
theorem Cg (os : Os) : laidMet Tryd.prog Rows.typedOwnRow.laid ((YL os).forCall (fun _ _ => 0) ⟨#[], #[.slice none 0 0, XX, .int .i64 0], []⟩).memory :=
  laidMet_of_run' 8 (by kernel_rfl) (by kernel_rfl)
theorem NR (os : Os) {H : Type} (enc : TypeId × Value → H) : ∃ HW, DataW.whole enc Tryd.prog ((YL os).forCall (fun _ _ => 0) ⟨#[], #[.slice none 0 0, XX, .int .i64 0], []⟩).memory Tryd.f7.params.toList Rows.typedOwnSpec.vars false (#[.slice none 0 0, XX, .int .i64 0] : Array Value).toList 8 = some ([.nil, .agg [.lit (.int .i64 0), .nil], .lit (.int .i64 0)], [], HW) :=
  ⟨[], by kernel_rfl⟩

theorem vZ (os : Os) (started : os.Started) (H : Type) (enc : TypeId × Value → H) (F : Stop.Interp) :
    ReturnsInHanded {} Tryd.checked os 7 .any ((OpenSpec.ofChange Rows.typedOwnSpec).preRow enc Tryd.prog Tryd.f7 Rows.typedOwnRow.domain false Rows.typedOwnRow.laid) (((OpenSpec.ofChange Rows.typedOwnSpec).at F).post enc Tryd.prog Tryd.f7 false true false false) := by
  obtain ⟨HW, hx⟩ := NR os enc
  refine returnsInHanded_of_row (C := Tryd.checked) (s := OpenSpec.ofChange Rows.typedOwnSpec) own started (by kernel_rfl) Tryd.func7
    (witness_row_at (enc := enc) (C := Tryd.checked) false (YL os) #[.slice none 0 0, XX, .int .i64 0] rfl (by kernel_rfl) (by kernel_rfl) (by kernel_rfl)
      (OpenSpec.preRow_of_cond 8 hx (by kernel_rfl) (fun k hk => by cases hk) (by kernel_rfl) (Cg os))) ?_
  intro W base args ds gs before hval hW _ _ hwt hL _ _
  exact xM H enc W base args ds gs before hval hW hwt hL

theorem said : Rows.TypedOwnSaid :=
  OpenClaim.holds_of_cond 7 Tryd.f7 rfl rfl rfl rfl rfl rfl rfl ⟨rfl, rfl, rfl, rfl, rfl⟩ rfl rfl rfl rfl rfl (by kernel_rfl) Tryd.func7 (by kernel_rfl)
    (of_decide_eq_true (by kernel_rfl)) (by unfold Func.isWrapper; first | (rw [if_pos (by decide +kernel)]; kernel_rfl) | (rw [if_neg (by decide +kernel)]; exact ⟨rfl, rfl⟩))
    (fun os started H enc _ F => by rw [OpenClaim.pre_eq_preRow]; exact vZ os started H enc F)

/-- No parameter wants a stand-in; the looks are as the card has them. -/
theorem plain (f : FuncId) (fn : Func) (hf : Tryd.pinned.checked.prog.funcNamed "winnow/winnowlaw8.TypedOwn" = some f) (hfn : Tryd.pinned.checked.prog.funcs[f]? = some fn) :
    true = Tryd.pinned.checked.prog.looks [] ∧ ∀ (j : Nat) t, fn.params[j]? = some t → Tryd.pinned.checked.prog.wantsStandIn t = false := by
  obtain rfl : f = 7 := Option.some.inj ((show Tryd.prog.funcNamed "winnow/winnowlaw8.TypedOwn" = some 7 by kernel_rfl).symm.trans hf) |>.symm
  obtain rfl : fn = Tryd.f7 := (Option.some.inj (Tryd.func7.symm.trans hfn)).symm
  refine ⟨by kernel_rfl, fun j t ht => ?_⟩
  rw [Tryd.params7] at ht
  have hm : t = 26 ∨ t = 29 ∨ t = 3 := by have := Array.mem_of_getElem? ht; simpa using this
  rcases hm with rfl | rfl | rfl
  · exact (show Tryd.prog.wantsStandIn 26 = false by kernel_rfl)
  · exact (show Tryd.prog.wantsStandIn 29 = false by kernel_rfl)
  · exact (show Tryd.prog.wantsStandIn 3 = false by kernel_rfl)

theorem card : Rows.TypedOwnCardSaid :=
  Claim7.holds_tied_plain_at .later [] _ _ _ _ said (fun _ h => by cases h) (by kernel_rfl) (fun _ h => by cases h) typedOwn_row_tie rfl ⟨rfl, rfl⟩ (by kernel_rfl) rfl plain (by kernel_rfl)
end Go.Proofs.YtdejoodfeljmkaaDoor.typedOwn
