/-
  DERIVED. GIVEN WITH THE SEED: THE CARDS: each row of YtdnnjkneablfiaaGreatDoorRows.lean that lists a variable, with what it lists TIED to the program's text (the seventh form; the later family's looks); each row that meets fmt, with fmt's text TOLD by the authors' own Lean function (tested against real Go, not proved from fmt's source: count such statements apart). THE CARD IS WHAT COUNTS. Prove the row's statement (the work); the ties are given (YtdnnjkneablfiaaGreatDoorTie.lean); close each card by the builder's one call (the guide's Derived/Test/ToyasCard.lean, 'card_holds'). Laid BY PROGRAM, IN A SANDBOX (cutbox-door.mjs). By AI agents, Wed Nov 11 2026. No macro, syntax, notation, axiom, sorry.
-/
import Derived.Test.YtdnnjkneablfiaaGreatDoorRows
import GoSem.ClaimSeven
namespace Go.Proofs.YtdnnjkneablfiaaGreatDoor
namespace Rows

/-- THE TIED CARD OF 'winnowlaw9.RoomSpans'. -/
def roomSpansCard : Claim7 := { stood := { row := roomSpansRow, standIns := [], harness := (true, "768a2e215628a87e5872fd36b8b8bd510feed42898a6a379dee77bb4f2b5d33d"), looks := true }, kinds := [], alts := [], laidByText := true, laidKinds := [.widerDeep], laidTests := true, laidLooks := .later }
def RoomSpansCardSaid : Prop := Claim7.holds Tryz.pinned (.plain (OpenSpec.ofChange roomSpansSpec)) roomSpansCard

/-- THE TIED CARD OF 'winnowlaw9.RoomLeast'. -/
def roomLeastCard : Claim7 := { stood := { row := roomLeastRow, standIns := [], harness := (true, "768a2e215628a87e5872fd36b8b8bd510feed42898a6a379dee77bb4f2b5d33d"), looks := true }, kinds := [], alts := [], laidByText := true, laidKinds := [.widerDeep], laidTests := true, laidLooks := .later }
def RoomLeastCardSaid : Prop := Claim7.holds Tryz.pinned (.plain (OpenSpec.ofChange roomLeastSpec)) roomLeastCard

/-- THE TIED CARD OF 'winnowlaw9.RoomOrders'. -/
def roomOrdersCard : Claim7 := { stood := { row := roomOrdersRow, standIns := [], harness := (true, "768a2e215628a87e5872fd36b8b8bd510feed42898a6a379dee77bb4f2b5d33d"), looks := true }, kinds := [], alts := [], laidByText := true, laidKinds := [.widerDeep], laidTests := true, laidLooks := .later }
def RoomOrdersCardSaid : Prop := Claim7.holds Tryz.pinned (.plain (OpenSpec.ofChange roomOrdersSpec)) roomOrdersCard

/-- THE TIED CARD OF 'winnowlaw9.RoomOwn'. -/
def roomOwnCard : Claim7 := { stood := { row := roomOwnRow, standIns := [], harness := (true, "768a2e215628a87e5872fd36b8b8bd510feed42898a6a379dee77bb4f2b5d33d"), looks := true }, kinds := [], alts := [], laidByText := true, laidKinds := [.widerDeep], laidTests := true, laidLooks := .later }
def RoomOwnCardSaid : Prop := Claim7.holds Tryz.pinned (.plain (OpenSpec.ofChange roomOwnSpec)) roomOwnCard

/-- THE SECOND FORM's CARD OF 'winnowlaw9.RoomSpans'. -/
def roomSpansUptoCard : Claim7 := { stood := { row := roomSpansUptoRow, standIns := [], harness := (true, "768a2e215628a87e5872fd36b8b8bd510feed42898a6a379dee77bb4f2b5d33d"), looks := true }, kinds := [], alts := [], laidByText := true, laidKinds := [.widerDeep], laidTests := true, laidLooks := .later }
def RoomSpansUptoCardSaid : Prop := Claim7.holds Tryz.pinned (.plain (OpenSpec.upto roomSpansSpec)) roomSpansUptoCard

/-- THE SECOND FORM's CARD OF 'winnowlaw9.RoomLeast'. -/
def roomLeastUptoCard : Claim7 := { stood := { row := roomLeastUptoRow, standIns := [], harness := (true, "768a2e215628a87e5872fd36b8b8bd510feed42898a6a379dee77bb4f2b5d33d"), looks := true }, kinds := [], alts := [], laidByText := true, laidKinds := [.widerDeep], laidTests := true, laidLooks := .later }
def RoomLeastUptoCardSaid : Prop := Claim7.holds Tryz.pinned (.plain (OpenSpec.upto roomLeastSpec)) roomLeastUptoCard

/-- THE SECOND FORM's CARD OF 'winnowlaw9.RoomOrders'. -/
def roomOrdersUptoCard : Claim7 := { stood := { row := roomOrdersUptoRow, standIns := [], harness := (true, "768a2e215628a87e5872fd36b8b8bd510feed42898a6a379dee77bb4f2b5d33d"), looks := true }, kinds := [], alts := [], laidByText := true, laidKinds := [.widerDeep], laidTests := true, laidLooks := .later }
def RoomOrdersUptoCardSaid : Prop := Claim7.holds Tryz.pinned (.plain (OpenSpec.upto roomOrdersSpec)) roomOrdersUptoCard

/-- THE SECOND FORM's CARD OF 'winnowlaw9.RoomOwn'. -/
def roomOwnUptoCard : Claim7 := { stood := { row := roomOwnUptoRow, standIns := [], harness := (true, "768a2e215628a87e5872fd36b8b8bd510feed42898a6a379dee77bb4f2b5d33d"), looks := true }, kinds := [], alts := [], laidByText := true, laidKinds := [.widerDeep], laidTests := true, laidLooks := .later }
def RoomOwnUptoCardSaid : Prop := Claim7.holds Tryz.pinned (.plain (OpenSpec.upto roomOwnSpec)) roomOwnUptoCard
end Rows
end Go.Proofs.YtdnnjkneablfiaaGreatDoor
