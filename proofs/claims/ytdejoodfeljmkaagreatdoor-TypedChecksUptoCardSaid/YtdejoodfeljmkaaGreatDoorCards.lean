/-
  DERIVED. GIVEN WITH THE SEED: THE CARDS: each row of YtdejoodfeljmkaaGreatDoorRows.lean that lists a variable, with what it lists TIED to the program's text (the seventh form; the later family's looks); each row that meets fmt, with fmt's text TOLD by the authors' own Lean function (tested against real Go, not proved from fmt's source: count such statements apart). THE CARD IS WHAT COUNTS. Prove the row's statement (the work); the ties are given (YtdejoodfeljmkaaGreatDoorTie.lean); close each card by the builder's one call (the guide's Derived/Test/ToyasCard.lean, 'card_holds'). Laid BY PROGRAM, IN A SANDBOX (cutbox-door.mjs). By AI agents, Wed Nov 11 2026. No macro, syntax, notation, axiom, sorry.
-/
import Derived.Test.YtdejoodfeljmkaaGreatDoorRows
import GoSem.ClaimSeven
namespace Go.Proofs.YtdejoodfeljmkaaGreatDoor
namespace Rows

/-- THE TIED CARD OF 'winnowlaw8.TypedTypes'. -/
def typedTypesCard : Claim7 := { stood := { row := typedTypesRow, standIns := [], harness := (true, "52b04105a6ace2b12e2232edd01eb349024cb9715051074440abe552543b638a"), looks := true }, kinds := [], alts := [], laidByText := true, laidKinds := [.widerDeep], laidTests := true, laidLooks := .later }
def TypedTypesCardSaid : Prop := Claim7.holds Tryz.pinned (.plain (OpenSpec.ofChange typedTypesSpec)) typedTypesCard

/-- THE TIED CARD OF 'winnowlaw8.TypedFits'. -/
def typedFitsCard : Claim7 := { stood := { row := typedFitsRow, standIns := [], harness := (true, "52b04105a6ace2b12e2232edd01eb349024cb9715051074440abe552543b638a"), looks := true }, kinds := [], alts := [], laidByText := true, laidKinds := [.widerDeep], laidTests := true, laidLooks := .later }
def TypedFitsCardSaid : Prop := Claim7.holds Tryz.pinned (.plain (OpenSpec.ofChange typedFitsSpec)) typedFitsCard

/-- THE TIED CARD OF 'winnowlaw8.TypedConsts'. -/
def typedConstsCard : Claim7 := { stood := { row := typedConstsRow, standIns := [], harness := (true, "52b04105a6ace2b12e2232edd01eb349024cb9715051074440abe552543b638a"), looks := true }, kinds := [], alts := [], laidByText := true, laidKinds := [.widerDeep], laidTests := true, laidLooks := .later }
def TypedConstsCardSaid : Prop := Claim7.holds Tryz.pinned (.plain (OpenSpec.ofChange typedConstsSpec)) typedConstsCard

/-- THE TIED CARD OF 'winnowlaw8.TypedChecks'. -/
def typedChecksCard : Claim7 := { stood := { row := typedChecksRow, standIns := [], harness := (true, "52b04105a6ace2b12e2232edd01eb349024cb9715051074440abe552543b638a"), looks := true }, kinds := [], alts := [], laidByText := true, laidKinds := [.widerDeep], laidTests := true, laidLooks := .later }
def TypedChecksCardSaid : Prop := Claim7.holds Tryz.pinned (.plain (OpenSpec.ofChange typedChecksSpec)) typedChecksCard

/-- THE SECOND FORM's CARD OF 'winnowlaw8.TypedTypes'. -/
def typedTypesUptoCard : Claim7 := { stood := { row := typedTypesUptoRow, standIns := [], harness := (true, "52b04105a6ace2b12e2232edd01eb349024cb9715051074440abe552543b638a"), looks := true }, kinds := [], alts := [], laidByText := true, laidKinds := [.widerDeep], laidTests := true, laidLooks := .later }
def TypedTypesUptoCardSaid : Prop := Claim7.holds Tryz.pinned (.plain (OpenSpec.upto typedTypesSpec)) typedTypesUptoCard

/-- THE SECOND FORM's CARD OF 'winnowlaw8.TypedFits'. -/
def typedFitsUptoCard : Claim7 := { stood := { row := typedFitsUptoRow, standIns := [], harness := (true, "52b04105a6ace2b12e2232edd01eb349024cb9715051074440abe552543b638a"), looks := true }, kinds := [], alts := [], laidByText := true, laidKinds := [.widerDeep], laidTests := true, laidLooks := .later }
def TypedFitsUptoCardSaid : Prop := Claim7.holds Tryz.pinned (.plain (OpenSpec.upto typedFitsSpec)) typedFitsUptoCard

/-- THE SECOND FORM's CARD OF 'winnowlaw8.TypedConsts'. -/
def typedConstsUptoCard : Claim7 := { stood := { row := typedConstsUptoRow, standIns := [], harness := (true, "52b04105a6ace2b12e2232edd01eb349024cb9715051074440abe552543b638a"), looks := true }, kinds := [], alts := [], laidByText := true, laidKinds := [.widerDeep], laidTests := true, laidLooks := .later }
def TypedConstsUptoCardSaid : Prop := Claim7.holds Tryz.pinned (.plain (OpenSpec.upto typedConstsSpec)) typedConstsUptoCard

/-- THE SECOND FORM's CARD OF 'winnowlaw8.TypedChecks'. -/
def typedChecksUptoCard : Claim7 := { stood := { row := typedChecksUptoRow, standIns := [], harness := (true, "52b04105a6ace2b12e2232edd01eb349024cb9715051074440abe552543b638a"), looks := true }, kinds := [], alts := [], laidByText := true, laidKinds := [.widerDeep], laidTests := true, laidLooks := .later }
def TypedChecksUptoCardSaid : Prop := Claim7.holds Tryz.pinned (.plain (OpenSpec.upto typedChecksSpec)) typedChecksUptoCard
end Rows
end Go.Proofs.YtdejoodfeljmkaaGreatDoor
