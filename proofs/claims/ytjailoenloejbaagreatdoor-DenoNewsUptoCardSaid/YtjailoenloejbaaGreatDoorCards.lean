/-
  DERIVED. GIVEN WITH THE SEED: THE CARDS: each row of YtjailoenloejbaaGreatDoorRows.lean that lists a variable, with what it lists TIED to the program's text (the seventh form; the later family's looks); each row that meets fmt, with fmt's text TOLD by the authors' own Lean function (tested against real Go, not proved from fmt's source: count such statements apart). THE CARD IS WHAT COUNTS. Prove the row's statement (the work); the ties are given (YtjailoenloejbaaGreatDoorTie.lean); close each card by the builder's one call (the guide's Derived/Test/ToyasCard.lean, 'card_holds'). Laid BY PROGRAM, IN A SANDBOX (cutbox-door.mjs). By AI agents, Wed Nov 11 2026. No macro, syntax, notation, axiom, sorry.
-/
import Derived.Test.YtjailoenloejbaaGreatDoorRows
import GoSem.ClaimSeven
namespace Go.Proofs.YtjailoenloejbaaGreatDoor
namespace Rows

/-- THE TIED CARD OF 'winnowlaw11.DenoNews'. -/
def denoNewsCard : Claim7 := { stood := { row := denoNewsRow, standIns := [], harness := (true, "0728bb3095fcecddd7198dfafc562c57fb246e584a2f97b5d4103455f9b97390"), looks := true }, kinds := [], alts := [], laidByText := true, laidKinds := [.widerDeep], laidTests := true, laidLooks := .later }
def DenoNewsCardSaid : Prop := Claim7.holds Tryz.pinned (.plain (OpenSpec.ofChange denoNewsSpec)) denoNewsCard

/-- THE TIED CARD OF 'winnowlaw11.DenoPlays'. -/
def denoPlaysCard : Claim7 := { stood := { row := denoPlaysRow, standIns := [], harness := (true, "0728bb3095fcecddd7198dfafc562c57fb246e584a2f97b5d4103455f9b97390"), looks := true }, kinds := [], alts := [], laidByText := true, laidKinds := [.widerDeep], laidTests := true, laidLooks := .later }
def DenoPlaysCardSaid : Prop := Claim7.holds Tryz.pinned (.plain (OpenSpec.ofChange denoPlaysSpec)) denoPlaysCard

/-- THE TIED CARD OF 'winnowlaw10.CostHolds'. -/
def costHoldsCard : Claim7 := { stood := { row := costHoldsRow, standIns := [], harness := (true, "0728bb3095fcecddd7198dfafc562c57fb246e584a2f97b5d4103455f9b97390"), looks := true }, kinds := [], alts := [], laidByText := true, laidKinds := [.widerDeep], laidTests := true, laidLooks := .later }
def CostHoldsCardSaid : Prop := Claim7.holds Tryz.pinned (.plain (OpenSpec.ofChange costHoldsSpec)) costHoldsCard

/-- THE TIED CARD OF 'winnowlaw11.DenoSound'. -/
def denoSoundCard : Claim7 := { stood := { row := denoSoundRow, standIns := [], harness := (true, "0728bb3095fcecddd7198dfafc562c57fb246e584a2f97b5d4103455f9b97390"), looks := true }, kinds := [], alts := [], laidByText := true, laidKinds := [.widerDeep], laidTests := true, laidLooks := .later }
def DenoSoundCardSaid : Prop := Claim7.holds Tryz.pinned (.plain (OpenSpec.ofChange denoSoundSpec)) denoSoundCard

/-- THE TIED CARD OF 'winnowlaw11.DenoKeys'. -/
def denoKeysCard : Claim7 := { stood := { row := denoKeysRow, standIns := [], harness := (true, "0728bb3095fcecddd7198dfafc562c57fb246e584a2f97b5d4103455f9b97390"), looks := true }, kinds := [], alts := [], laidByText := true, laidKinds := [.widerDeep], laidTests := true, laidLooks := .later }
def DenoKeysCardSaid : Prop := Claim7.holds Tryz.pinned (.plain (OpenSpec.ofChange denoKeysSpec)) denoKeysCard

/-- THE TIED CARD OF 'winnowlaw11.DenoLaid'. -/
def denoLaidCard : Claim7 := { stood := { row := denoLaidRow, standIns := [], harness := (true, "0728bb3095fcecddd7198dfafc562c57fb246e584a2f97b5d4103455f9b97390"), looks := true }, kinds := [], alts := [], laidByText := true, laidKinds := [.widerDeep], laidTests := true, laidLooks := .later }
def DenoLaidCardSaid : Prop := Claim7.holds Tryz.pinned (.plain (OpenSpec.ofChange denoLaidSpec)) denoLaidCard

/-- THE TIED CARD OF 'winnowlaw11.DenoApart'. -/
def denoApartCard : Claim7 := { stood := { row := denoApartRow, standIns := [], harness := (true, "0728bb3095fcecddd7198dfafc562c57fb246e584a2f97b5d4103455f9b97390"), looks := true }, kinds := [], alts := [], laidByText := true, laidKinds := [.widerDeep], laidTests := true, laidLooks := .later }
def DenoApartCardSaid : Prop := Claim7.holds Tryz.pinned (.plain (OpenSpec.ofChange denoApartSpec)) denoApartCard

/-- THE SECOND FORM's CARD OF 'winnowlaw11.DenoNews'. -/
def denoNewsUptoCard : Claim7 := { stood := { row := denoNewsUptoRow, standIns := [], harness := (true, "0728bb3095fcecddd7198dfafc562c57fb246e584a2f97b5d4103455f9b97390"), looks := true }, kinds := [], alts := [], laidByText := true, laidKinds := [.widerDeep], laidTests := true, laidLooks := .later }
def DenoNewsUptoCardSaid : Prop := Claim7.holds Tryz.pinned (.plain (OpenSpec.upto denoNewsSpec)) denoNewsUptoCard

/-- THE SECOND FORM's CARD OF 'winnowlaw11.DenoPlays'. -/
def denoPlaysUptoCard : Claim7 := { stood := { row := denoPlaysUptoRow, standIns := [], harness := (true, "0728bb3095fcecddd7198dfafc562c57fb246e584a2f97b5d4103455f9b97390"), looks := true }, kinds := [], alts := [], laidByText := true, laidKinds := [.widerDeep], laidTests := true, laidLooks := .later }
def DenoPlaysUptoCardSaid : Prop := Claim7.holds Tryz.pinned (.plain (OpenSpec.upto denoPlaysSpec)) denoPlaysUptoCard

/-- THE SECOND FORM's CARD OF 'winnowlaw10.CostHolds'. -/
def costHoldsUptoCard : Claim7 := { stood := { row := costHoldsUptoRow, standIns := [], harness := (true, "0728bb3095fcecddd7198dfafc562c57fb246e584a2f97b5d4103455f9b97390"), looks := true }, kinds := [], alts := [], laidByText := true, laidKinds := [.widerDeep], laidTests := true, laidLooks := .later }
def CostHoldsUptoCardSaid : Prop := Claim7.holds Tryz.pinned (.plain (OpenSpec.upto costHoldsSpec)) costHoldsUptoCard

/-- THE SECOND FORM's CARD OF 'winnowlaw11.DenoSound'. -/
def denoSoundUptoCard : Claim7 := { stood := { row := denoSoundUptoRow, standIns := [], harness := (true, "0728bb3095fcecddd7198dfafc562c57fb246e584a2f97b5d4103455f9b97390"), looks := true }, kinds := [], alts := [], laidByText := true, laidKinds := [.widerDeep], laidTests := true, laidLooks := .later }
def DenoSoundUptoCardSaid : Prop := Claim7.holds Tryz.pinned (.plain (OpenSpec.upto denoSoundSpec)) denoSoundUptoCard

/-- THE SECOND FORM's CARD OF 'winnowlaw11.DenoKeys'. -/
def denoKeysUptoCard : Claim7 := { stood := { row := denoKeysUptoRow, standIns := [], harness := (true, "0728bb3095fcecddd7198dfafc562c57fb246e584a2f97b5d4103455f9b97390"), looks := true }, kinds := [], alts := [], laidByText := true, laidKinds := [.widerDeep], laidTests := true, laidLooks := .later }
def DenoKeysUptoCardSaid : Prop := Claim7.holds Tryz.pinned (.plain (OpenSpec.upto denoKeysSpec)) denoKeysUptoCard

/-- THE SECOND FORM's CARD OF 'winnowlaw11.DenoLaid'. -/
def denoLaidUptoCard : Claim7 := { stood := { row := denoLaidUptoRow, standIns := [], harness := (true, "0728bb3095fcecddd7198dfafc562c57fb246e584a2f97b5d4103455f9b97390"), looks := true }, kinds := [], alts := [], laidByText := true, laidKinds := [.widerDeep], laidTests := true, laidLooks := .later }
def DenoLaidUptoCardSaid : Prop := Claim7.holds Tryz.pinned (.plain (OpenSpec.upto denoLaidSpec)) denoLaidUptoCard

/-- THE SECOND FORM's CARD OF 'winnowlaw11.DenoApart'. -/
def denoApartUptoCard : Claim7 := { stood := { row := denoApartUptoRow, standIns := [], harness := (true, "0728bb3095fcecddd7198dfafc562c57fb246e584a2f97b5d4103455f9b97390"), looks := true }, kinds := [], alts := [], laidByText := true, laidKinds := [.widerDeep], laidTests := true, laidLooks := .later }
def DenoApartUptoCardSaid : Prop := Claim7.holds Tryz.pinned (.plain (OpenSpec.upto denoApartSpec)) denoApartUptoCard
end Rows
end Go.Proofs.YtjailoenloejbaaGreatDoor
