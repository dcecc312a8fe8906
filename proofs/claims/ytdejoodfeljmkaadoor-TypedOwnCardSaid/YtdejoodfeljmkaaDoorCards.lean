/-
  DERIVED. GIVEN WITH THE SEED: THE CARDS: each row of YtdejoodfeljmkaaDoorRows.lean that lists a variable, with what it lists TIED to the program's text (the seventh form; the later family's looks); each row that meets fmt, with fmt's text TOLD by the authors' own Lean function (tested against real Go, not proved from fmt's source: count such statements apart). THE CARD IS WHAT COUNTS. Prove the row's statement (the work); the ties are given (YtdejoodfeljmkaaDoorTie.lean); close each card by the builder's one call (the guide's Derived/Test/ToyasCard.lean, 'card_holds'). Laid BY PROGRAM, IN A SANDBOX (cutbox-door.mjs). By AI agents, Wed Nov 11 2026. No macro, syntax, notation, axiom, sorry.
-/
import Derived.Test.YtdejoodfeljmkaaDoorRows
import GoSem.ClaimSeven
namespace Go.Proofs.YtdejoodfeljmkaaDoor
namespace Rows

/-- THE TIED CARD OF 'winnowlaw8.TypedNumbers'. -/
def typedNumbersCard : Claim7 := { stood := { row := typedNumbersRow, standIns := [], harness := (true, "838aec1d637b8cb715ad478f212af06c02e68cf679e803cfa501098d036a1125"), looks := true }, kinds := [], alts := [], laidByText := true, laidKinds := [.widerDeep], laidTests := true, laidLooks := .later }
def TypedNumbersCardSaid : Prop := Claim7.holds Tryd.pinned (.plain (OpenSpec.ofChange typedNumbersSpec)) typedNumbersCard

/-- THE TIED CARD OF 'winnowlaw8.TypedFloor'. -/
def typedFloorCard : Claim7 := { stood := { row := typedFloorRow, standIns := [], harness := (true, "838aec1d637b8cb715ad478f212af06c02e68cf679e803cfa501098d036a1125"), looks := true }, kinds := [], alts := [], laidByText := true, laidKinds := [.widerDeep], laidTests := true, laidLooks := .later }
def TypedFloorCardSaid : Prop := Claim7.holds Tryd.pinned (.plain (OpenSpec.ofChange typedFloorSpec)) typedFloorCard

/-- THE TIED CARD OF 'winnowlaw8.TypedSizes'. -/
def typedSizesCard : Claim7 := { stood := { row := typedSizesRow, standIns := [], harness := (true, "838aec1d637b8cb715ad478f212af06c02e68cf679e803cfa501098d036a1125"), looks := true }, kinds := [], alts := [], laidByText := true, laidKinds := [.widerDeep], laidTests := true, laidLooks := .later }
def TypedSizesCardSaid : Prop := Claim7.holds Tryd.pinned (.plain (OpenSpec.ofChange typedSizesSpec)) typedSizesCard

/-- THE TIED CARD OF 'winnowlaw8.TypedAgrees'. -/
def typedAgreesCard : Claim7 := { stood := { row := typedAgreesRow, standIns := [], harness := (true, "838aec1d637b8cb715ad478f212af06c02e68cf679e803cfa501098d036a1125"), looks := true }, kinds := [], alts := [], laidByText := true, laidKinds := [.widerDeep], laidTests := true, laidLooks := .later }
def TypedAgreesCardSaid : Prop := Claim7.holds Tryd.pinned (.plain (OpenSpec.ofChange typedAgreesSpec)) typedAgreesCard

/-- THE TIED CARD OF 'winnowlaw8.TypedOwn'. -/
def typedOwnCard : Claim7 := { stood := { row := typedOwnRow, standIns := [], harness := (true, "838aec1d637b8cb715ad478f212af06c02e68cf679e803cfa501098d036a1125"), looks := true }, kinds := [], alts := [], laidByText := true, laidKinds := [.widerDeep], laidTests := true, laidLooks := .later }
def TypedOwnCardSaid : Prop := Claim7.holds Tryd.pinned (.plain (OpenSpec.ofChange typedOwnSpec)) typedOwnCard

/-- THE SECOND FORM's CARD OF 'winnowlaw8.TypedNumbers'. -/
def typedNumbersUptoCard : Claim7 := { stood := { row := typedNumbersUptoRow, standIns := [], harness := (true, "838aec1d637b8cb715ad478f212af06c02e68cf679e803cfa501098d036a1125"), looks := true }, kinds := [], alts := [], laidByText := true, laidKinds := [.widerDeep], laidTests := true, laidLooks := .later }
def TypedNumbersUptoCardSaid : Prop := Claim7.holds Tryd.pinned (.plain (OpenSpec.upto typedNumbersSpec)) typedNumbersUptoCard

/-- THE SECOND FORM's CARD OF 'winnowlaw8.TypedFloor'. -/
def typedFloorUptoCard : Claim7 := { stood := { row := typedFloorUptoRow, standIns := [], harness := (true, "838aec1d637b8cb715ad478f212af06c02e68cf679e803cfa501098d036a1125"), looks := true }, kinds := [], alts := [], laidByText := true, laidKinds := [.widerDeep], laidTests := true, laidLooks := .later }
def TypedFloorUptoCardSaid : Prop := Claim7.holds Tryd.pinned (.plain (OpenSpec.upto typedFloorSpec)) typedFloorUptoCard

/-- THE SECOND FORM's CARD OF 'winnowlaw8.TypedSizes'. -/
def typedSizesUptoCard : Claim7 := { stood := { row := typedSizesUptoRow, standIns := [], harness := (true, "838aec1d637b8cb715ad478f212af06c02e68cf679e803cfa501098d036a1125"), looks := true }, kinds := [], alts := [], laidByText := true, laidKinds := [.widerDeep], laidTests := true, laidLooks := .later }
def TypedSizesUptoCardSaid : Prop := Claim7.holds Tryd.pinned (.plain (OpenSpec.upto typedSizesSpec)) typedSizesUptoCard

/-- THE SECOND FORM's CARD OF 'winnowlaw8.TypedAgrees'. -/
def typedAgreesUptoCard : Claim7 := { stood := { row := typedAgreesUptoRow, standIns := [], harness := (true, "838aec1d637b8cb715ad478f212af06c02e68cf679e803cfa501098d036a1125"), looks := true }, kinds := [], alts := [], laidByText := true, laidKinds := [.widerDeep], laidTests := true, laidLooks := .later }
def TypedAgreesUptoCardSaid : Prop := Claim7.holds Tryd.pinned (.plain (OpenSpec.upto typedAgreesSpec)) typedAgreesUptoCard

/-- THE SECOND FORM's CARD OF 'winnowlaw8.TypedOwn'. -/
def typedOwnUptoCard : Claim7 := { stood := { row := typedOwnUptoRow, standIns := [], harness := (true, "838aec1d637b8cb715ad478f212af06c02e68cf679e803cfa501098d036a1125"), looks := true }, kinds := [], alts := [], laidByText := true, laidKinds := [.widerDeep], laidTests := true, laidLooks := .later }
def TypedOwnUptoCardSaid : Prop := Claim7.holds Tryd.pinned (.plain (OpenSpec.upto typedOwnSpec)) typedOwnUptoCard
end Rows
end Go.Proofs.YtdejoodfeljmkaaDoor
