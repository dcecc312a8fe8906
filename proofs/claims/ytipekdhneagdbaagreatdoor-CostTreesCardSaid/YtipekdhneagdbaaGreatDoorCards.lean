/-
  DERIVED. GIVEN WITH THE SEED: THE CARDS: each row of YtipekdhneagdbaaGreatDoorRows.lean that lists a variable, with what it lists TIED to the program's text (the seventh form; the later family's looks); each row that meets fmt, with fmt's text TOLD by the authors' own Lean function (tested against real Go, not proved from fmt's source: count such statements apart). THE CARD IS WHAT COUNTS. Prove the row's statement (the work); the ties are given (YtipekdhneagdbaaGreatDoorTie.lean); close each card by the builder's one call (the guide's Derived/Test/ToyasCard.lean, 'card_holds'). Laid BY PROGRAM, IN A SANDBOX (cutbox-door.mjs). By AI agents, Wed Nov 11 2026. No macro, syntax, notation, axiom, sorry.
-/
import Derived.Test.YtipekdhneagdbaaGreatDoorRows
import GoSem.ClaimSeven
namespace Go.Proofs.YtipekdhneagdbaaGreatDoor
namespace Rows

/-- THE TIED CARD OF 'winnowlaw10.CostBounds'. -/
def costBoundsCard : Claim7 := { stood := { row := costBoundsRow, standIns := [], harness := (true, "d07d2cfcc539ad53e6a82cf19ca474f5aba62efcf08540f9af5ae019c4ee6d7b"), looks := false }, kinds := [], alts := [], laidByText := true, laidKinds := [.widerDeep], laidTests := true, laidLooks := .later }
def CostBoundsCardSaid : Prop := Claim7.holds Tryz.pinned (.plain (OpenSpec.ofChange costBoundsSpec)) costBoundsCard

/-- THE TIED CARD OF 'winnowlaw10.CostTrees'. -/
def costTreesCard : Claim7 := { stood := { row := costTreesRow, standIns := [], harness := (true, "d07d2cfcc539ad53e6a82cf19ca474f5aba62efcf08540f9af5ae019c4ee6d7b"), looks := false }, kinds := [], alts := [], laidByText := true, laidKinds := [.widerDeep], laidTests := true, laidLooks := .later }
def CostTreesCardSaid : Prop := Claim7.holds Tryz.pinned (.plain (OpenSpec.ofChange costTreesSpec)) costTreesCard

/-- THE SECOND FORM's CARD OF 'winnowlaw10.CostBounds'. -/
def costBoundsUptoCard : Claim7 := { stood := { row := costBoundsUptoRow, standIns := [], harness := (true, "d07d2cfcc539ad53e6a82cf19ca474f5aba62efcf08540f9af5ae019c4ee6d7b"), looks := false }, kinds := [], alts := [], laidByText := true, laidKinds := [.widerDeep], laidTests := true, laidLooks := .later }
def CostBoundsUptoCardSaid : Prop := Claim7.holds Tryz.pinned (.plain (OpenSpec.upto costBoundsSpec)) costBoundsUptoCard

/-- THE SECOND FORM's CARD OF 'winnowlaw10.CostTrees'. -/
def costTreesUptoCard : Claim7 := { stood := { row := costTreesUptoRow, standIns := [], harness := (true, "d07d2cfcc539ad53e6a82cf19ca474f5aba62efcf08540f9af5ae019c4ee6d7b"), looks := false }, kinds := [], alts := [], laidByText := true, laidKinds := [.widerDeep], laidTests := true, laidLooks := .later }
def CostTreesUptoCardSaid : Prop := Claim7.holds Tryz.pinned (.plain (OpenSpec.upto costTreesSpec)) costTreesUptoCard
end Rows
end Go.Proofs.YtipekdhneagdbaaGreatDoor
