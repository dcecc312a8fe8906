/- DenoNews: where what is read is of bulk at most 1048576 the law answers true, on every machine, whatever order is drawn: the shadow reading of the program and of the document, sound (the Sx texts), both telling what one IC reading tells (the Nx, the Tx and the Dx texts). -/
import Derived.Test.YtjailoenloejbaaGreatDoorCards
import Derived.Test.YtjailoenloejbaaGreatDoorTie
import Derived.WalkKit
import Derived.ProofKit
import Derived.OpenShut
import Derived.Deep.DeepHandedRow
import Derived.Test.YtjailoenloejbaaGreatDoorDV35
namespace Go.Proofs.YtjailoenloejbaaGreatDoor.denoNews
open Go.ChangeShapes Go.WideShapes Go.ChangeAt Go.RowKit Go.Sx
set_option maxRecDepth 100000

theorem own : ownKnob Tryz.prog.godebug = none := by kernel_rfl

theorem Xv (H : Type) (enc : TypeId × Value → H) (W : World) (base : Nat) (args : Array Value) (ds gs : List (DataW H)) (before : List MemPlace)
    (hval : ∀ (j : Nat) t v, Tryz.f3.params[j]? = some t → args[j]? = some v → Value.okWide Tryz.prog W .any base t v)
    (hW : DataW.Whole enc Tryz.prog Tryz.f3.params.toList Rows.denoNewsSpec.vars false W args.toList ds gs before) (hk : Rows.uptoSmall H (ds ++ gs) = true)
    (hL : laidMetH Tryz.prog Rows.denoNewsUptoRow.laid W) :
    Calls Tryz.prog 3 args W fun e W' => ∃ v, e = .returned v ∧ Rows.denoNewsSpec.post enc Tryz.prog Tryz.f3 false true false false W args v W' := by
  have hW' := hW
  obtain ⟨p, q, hA0, hV, rfl, hfz, hnd⟩ := hW
  have hA : DataW.TrodAll enc Tryz.prog W 0 (fun _ => true) true Tryz.f3.params.toList args.toList ds p := hA0
  rw [Tryz.params3] at hA hval
  obtain ⟨v0, vs0, d0, ds0, p0, q0, hargs, rfl, rfl, h0, r0⟩ := trodAll_cons hA
  obtain ⟨v1, vs1, d1, ds1, p1, q1, rfl, rfl, rfl, h1, r1⟩ := trodAll_cons r0
  obtain ⟨v2, vs2, d2, ds2, p2, q2, rfl, rfl, rfl, h2, r2⟩ := trodAll_cons r1
  obtain ⟨rfl, rfl, rfl⟩ := trodAll_nil r2
  obtain rfl : args = #[v0, v1, v2] := by cases args; simp_all
  obtain ⟨rfl, rfl⟩ := trodVars_none hV
  obtain ⟨nm, s, hl⟩ := J44 (hval 0 27 v0 rfl rfl) h0
  have hb := J2w hl h0
  obtain ⟨V, G, rd, htw⟩ := Tf (hval 1 30 v1 rfl rfl) h1
  have hb1 := We htw h1
  obtain ⟨size, C, ht, hbc⟩ := J38 (hval 2 32 v2 rfl rfl) h2
  have hB : Rows.uptoBulk d0 + Rows.uptoBulk d1 + Rows.uptoBulk d2 ≤ 1048576 := by
    simp only [Rows.uptoSmall, decide_eq_true_eq, List.append_nil, Rows.uptoBulkAll] at hk
    omega
  obtain ⟨hp, ρ, sv, sw, su, hR, hw, hvr, hvt, hvc, hi, hti, hci, hfl, hg0, hn0⟩ := J2v hL hl htw ht
  obtain ⟨h', hs, _⟩ := J4u (n := 20000031) hi hti hci (fun x hx => (hl.c x hx).2.2.2.2) (by omega) (by omega) (by refine ⟨?_, ?_, ?_⟩ <;> simp only <;> omega) hg0 hn0 (by rw [hfl]; omega) (by omega)
  have hcall := (WC NA (qE 20000031).1 (qE 20000031).2 20000031).1 3 _ _ _ _ hs
  refine (hcall.2 ρ W #[v0, v1, v2] hR (.cons hvr (.cons hvt (.cons hvc .nil)))).mono fun e W' ⟨V, ρ', he, hN, hv⟩ => ?_
  subst he
  obtain rfl := UH hv
  have hb : Below W.heap.size W W' := ⟨(hN.c.g hw).f, (hN.c.g hw).d, (hN.c.g hw).a, (hN.c.g hw).c, (hN.c.g hw).e⟩
  exact ⟨_, rfl, mm (q := p0 ++ (p1 ++ (p2 ++ []))) (u := []) hW' (fun _ _ _ => trodAll_cons_mk (shut_bool Tryz.underlying4 _) trodAll_mk0)
    (fun sp hsp => zp hb _ _ _ _ (by kernel_rfl) hA (fun x hx => hW'.lt x (by simpa using hx)) (fun x hx => hsp x (by simpa using hx))) (fun _ _ => rfl) (by simp)
    hb (ok_one (by kernel_rfl) rfl (okWide_bool_mk Tryz.underlying4 _))⟩

/-- The policy of the witness: of nothing. -/
abbrev iZ : Value := .agg #[.string ⟨#[]⟩, .slice none 0 0, .slice none 0 0, .slice none 0 0, .slice none 0 0, .slice none 0 0, .slice none 0 0, .int .i64 0]
/-- What typed tells of it: nothing. -/
abbrev i7 : Value := .agg #[.slice none 0 0, .slice none 0 0, .slice none 0 0]
/-- Its capacities. -/
abbrev R8 : Value := .agg #[.int .i64 0, .slice none 0 0]
/-- A world for the witness: the settled one, the words (block 0) holding what their initialiser lays. -/
noncomputable def Aa (os : Os) : World :=
  { World.holding Tryz.prog os ⟨#[], #[], []⟩ with heap := (World.holding Tryz.prog os ⟨#[], #[], []⟩).heap.modify 0 fun
      | .cells _ t frozen => .cells QK.toArray t frozen
      | o => o }
theorem J1Q (os : Os) : laidMet Tryz.prog Rows.denoNewsUptoRow.laid ((Aa os).forCall (fun _ _ => 0) ⟨#[], #[iZ, i7, R8], []⟩).memory :=
  laidMet_of_run' 8 (by kernel_rfl) (by kernel_rfl)
theorem PV (os : Os) {H : Type} (enc : TypeId × Value → H) : ∃ HN, DataW.whole enc Tryz.prog ((Aa os).forCall (fun _ _ => 0) ⟨#[], #[iZ, i7, R8], []⟩).memory Tryz.f3.params.toList Rows.denoNewsSpec.vars false (#[iZ, i7, R8] : Array Value).toList 8 = some ([.agg [.lit (.string []), .nil, .nil, .nil, .nil, .nil, .nil, .lit (.int .i64 0)], .agg [.nil, .nil, .nil], .agg [.lit (.int .i64 0), .nil]], [], HN) :=
  ⟨[], by kernel_rfl⟩

theorem Zt (os : Os) (started : os.Started) (H : Type) (enc : TypeId × Value → H) (F : Stop.Interp) :
    ReturnsInHanded {} Tryz.checked os 3 .any ((Rows.OpenSpec.upto Rows.denoNewsSpec).preRow enc Tryz.prog Tryz.f3 Rows.denoNewsUptoRow.domain false Rows.denoNewsUptoRow.laid) (((Rows.OpenSpec.upto Rows.denoNewsSpec).at F).post enc Tryz.prog Tryz.f3 false true false false) := by
  obtain ⟨HN, hx⟩ := PV os enc
  refine returnsInHanded_of_row (C := Tryz.checked) (s := Rows.OpenSpec.upto Rows.denoNewsSpec) own started (by kernel_rfl) Tryz.func3
    (witness_row_at (enc := enc) (C := Tryz.checked) false (Aa os) #[iZ, i7, R8] rfl (by kernel_rfl) (by kernel_rfl) (by kernel_rfl)
      (OpenSpec.preRow_of_cond 8 hx (by kernel_rfl) (fun k hk => by cases hk; kernel_rfl) (by kernel_rfl) (J1Q os))) ?_
  intro W base args ds gs before hval hW _ hcond _ hL _ _
  exact Xv H enc W base args ds gs before hval hW (hcond _ rfl) hL

theorem j1 : (Rows.denoNewsUptoRow.inPlace == Tryz.pinned.checked.prog.inPlace 3) = true := by kernel_rfl
theorem j2 : (Rows.denoNewsUptoRow.unfollowed == Tryz.pinned.checked.prog.unfollowed 3) = true := by kernel_rfl
theorem j3 : (Rows.denoNewsUptoRow.recurses == Tryz.pinned.checked.prog.recurses 3) = true := by kernel_rfl
theorem j4 : (Rows.denoNewsUptoRow.named == Tryz.pinned.checked.prog.varsNamed 3) = true := by kernel_rfl
theorem Y6 : joinedFacts Tryz.pinned.checked.prog 3 Tryz.f3 (Rows.OpenSpec.upto Rows.denoNewsSpec).bare Rows.denoNewsUptoRow = true := by
  unfold joinedFacts
  rw [j1, j2, j3, j4]
  kernel_rfl

theorem said : Rows.DenoNewsUptoSaid :=
  OpenClaim.holds_of_cond 3 Tryz.f3 rfl rfl rfl rfl rfl rfl rfl ⟨rfl, rfl, rfl, rfl, rfl⟩ rfl rfl rfl rfl rfl (by kernel_rfl) Tryz.func3 Y6
    (of_decide_eq_true (by kernel_rfl)) (by unfold Func.isWrapper; first | (rw [if_pos (by decide +kernel)]; kernel_rfl) | (rw [if_neg (by decide +kernel)]; exact ⟨rfl, rfl⟩))
    (fun os started H enc _ F => by rw [OpenClaim.pre_eq_preRow]; exact Zt os started H enc F)

/-- No parameter wants a stand-in; the looks are as the card has them. -/
theorem IC (f : FuncId) (fn : Func) (hf : Tryz.pinned.checked.prog.funcNamed "winnow/winnowlaw11.DenoNews" = some f) (hfn : Tryz.pinned.checked.prog.funcs[f]? = some fn) :
    true = Tryz.pinned.checked.prog.looks [] ∧ ∀ (j : Nat) t, fn.params[j]? = some t → Tryz.pinned.checked.prog.wantsStandIn t = false := by
  obtain rfl : f = 3 := Option.some.inj ((show Tryz.prog.funcNamed "winnow/winnowlaw11.DenoNews" = some 3 by kernel_rfl).symm.trans hf) |>.symm
  obtain rfl : fn = Tryz.f3 := (Option.some.inj (Tryz.func3.symm.trans hfn)).symm
  refine ⟨by kernel_rfl, fun j t ht => ?_⟩
  rw [Tryz.params3] at ht
  have hm : t = 27 ∨ t = 30 ∨ t = 32 := by have := Array.mem_of_getElem? ht; simpa using this
  rcases hm with rfl | rfl | rfl
  · exact (show Tryz.prog.wantsStandIn 27 = false by kernel_rfl)
  · exact (show Tryz.prog.wantsStandIn 30 = false by kernel_rfl)
  · exact (show Tryz.prog.wantsStandIn 32 = false by kernel_rfl)

theorem card : Rows.DenoNewsUptoCardSaid :=
  Claim7.holds_tied_plain_at .later [] _ _ _ _ said (fun _ h => by cases h) (by kernel_rfl) (fun _ h => by cases h) denoNewsUpto_row_tie rfl ⟨rfl, rfl⟩ (by kernel_rfl) rfl IC (by kernel_rfl)
end Go.Proofs.YtjailoenloejbaaGreatDoor.denoNews

