/-
  DERIVED. GIVEN WITH THE SEED: THE CARDS: each row of YtipekdhneagdbaaDoorRows.lean that lists a variable, with what it lists TIED to the program's text (the seventh form; the later family's looks); each row that meets fmt, with fmt's text TOLD by the authors' own Lean function (tested against real Go, not proved from fmt's source: count such statements apart). THE CARD IS WHAT COUNTS. Prove the row's statement (the work); the ties are given (YtipekdhneagdbaaDoorTie.lean); close each card by the builder's one call (the guide's Derived/Test/ToyasCard.lean, 'card_holds'). Laid BY PROGRAM, IN A SANDBOX (cutbox-door.mjs). By AI agents, Wed Nov 11 2026. No macro, syntax, notation, axiom, sorry.
-/
import Derived.Test.YtipekdhneagdbaaDoorRows
import GoSem.ClaimSeven
namespace Go.Proofs.YtipekdhneagdbaaDoor
namespace Rows

/-- THE TIED CARD OF 'winnowlaw7.NamesResolves'. -/
def namesResolvesCard : Claim7 := { stood := { row := namesResolvesRow, standIns := [], harness := (true, "a6035fca68148cbca7ec2949251ec65000e618cdfbaceb15cd7d20d1cbd0cb4f"), looks := false }, kinds := [], alts := [], laidByText := true, laidKinds := [.widerDeep], laidTests := true, laidLooks := .later }
def NamesResolvesCardSaid : Prop := Claim7.holds Tryd.pinned (.plain (OpenSpec.ofChange namesResolvesSpec)) namesResolvesCard

/-- THE TIED CARD OF 'winnowlaw7.NamesChecks'. -/
def namesChecksCard : Claim7 := { stood := { row := namesChecksRow, standIns := [], harness := (true, "a6035fca68148cbca7ec2949251ec65000e618cdfbaceb15cd7d20d1cbd0cb4f"), looks := false }, kinds := [], alts := [], laidByText := true, laidKinds := [.widerDeep], laidTests := true, laidLooks := .later }
def NamesChecksCardSaid : Prop := Claim7.holds Tryd.pinned (.plain (OpenSpec.ofChange namesChecksSpec)) namesChecksCard

/-- THE TIED CARD OF 'winnowlaw7.NamesLaid'. -/
def namesLaidCard : Claim7 := { stood := { row := namesLaidRow, standIns := [], harness := (true, "a6035fca68148cbca7ec2949251ec65000e618cdfbaceb15cd7d20d1cbd0cb4f"), looks := false }, kinds := [], alts := [], laidByText := true, laidKinds := [.widerDeep], laidTests := true, laidLooks := .later }
def NamesLaidCardSaid : Prop := Claim7.holds Tryd.pinned (.plain (OpenSpec.ofChange namesLaidSpec)) namesLaidCard

/-- THE TIED CARD OF 'winnowlaw7.NamesMany'. -/
def namesManyCard : Claim7 := { stood := { row := namesManyRow, standIns := [], harness := (true, "a6035fca68148cbca7ec2949251ec65000e618cdfbaceb15cd7d20d1cbd0cb4f"), looks := false }, kinds := [], alts := [], laidByText := true, laidKinds := [.widerDeep], laidTests := true, laidLooks := .later }
def NamesManyCardSaid : Prop := Claim7.holds Tryd.pinned (.plain (OpenSpec.ofChange namesManySpec)) namesManyCard

/-- THE TIED CARD OF 'winnowlaw7.NamesLarge'. -/
def namesLargeCard : Claim7 := { stood := { row := namesLargeRow, standIns := [], harness := (true, "a6035fca68148cbca7ec2949251ec65000e618cdfbaceb15cd7d20d1cbd0cb4f"), looks := false }, kinds := [], alts := [], laidByText := true, laidKinds := [.widerDeep], laidTests := true, laidLooks := .later }
def NamesLargeCardSaid : Prop := Claim7.holds Tryd.pinned (.plain (OpenSpec.ofChange namesLargeSpec)) namesLargeCard

/-- THE TIED CARD OF 'winnowlaw7.NamesRenamed'. -/
def namesRenamedCard : Claim7 := { stood := { row := namesRenamedRow, standIns := [], harness := (true, "a6035fca68148cbca7ec2949251ec65000e618cdfbaceb15cd7d20d1cbd0cb4f"), looks := false }, kinds := [], alts := [], laidByText := true, laidKinds := [.widerDeep], laidTests := true, laidLooks := .later }
def NamesRenamedCardSaid : Prop := Claim7.holds Tryd.pinned (.plain (OpenSpec.ofChange namesRenamedSpec)) namesRenamedCard

/-- THE TIED CARD OF 'winnowlaw7.NamesTold'. -/
def namesToldCard : Claim7 := { stood := { row := namesToldRow, standIns := [], harness := (true, "a6035fca68148cbca7ec2949251ec65000e618cdfbaceb15cd7d20d1cbd0cb4f"), looks := false }, kinds := [], alts := [], laidByText := true, laidKinds := [.widerDeep], laidTests := true, laidLooks := .later }
def NamesToldCardSaid : Prop := Claim7.holds Tryd.pinned (.plain (OpenSpec.ofChange namesToldSpec)) namesToldCard

/-- THE TIED CARD OF 'winnowlaw7.NamesOwn'. -/
def namesOwnCard : Claim7 := { stood := { row := namesOwnRow, standIns := [], harness := (true, "a6035fca68148cbca7ec2949251ec65000e618cdfbaceb15cd7d20d1cbd0cb4f"), looks := false }, kinds := [], alts := [], laidByText := true, laidKinds := [.widerDeep], laidTests := true, laidLooks := .later }
def NamesOwnCardSaid : Prop := Claim7.holds Tryd.pinned (.plain (OpenSpec.ofChange namesOwnSpec)) namesOwnCard

/-- THE TIED CARD OF 'winnowlaw10.CostGrows'. -/
def costGrowsCard : Claim7 := { stood := { row := costGrowsRow, standIns := [], harness := (true, "a6035fca68148cbca7ec2949251ec65000e618cdfbaceb15cd7d20d1cbd0cb4f"), looks := false }, kinds := [], alts := [], laidByText := true, laidKinds := [.widerDeep], laidTests := true, laidLooks := .later }
def CostGrowsCardSaid : Prop := Claim7.holds Tryd.pinned (.plain (OpenSpec.ofChange costGrowsSpec)) costGrowsCard

/-- THE TIED CARD OF 'winnowlaw10.CostOwn'. -/
def costOwnCard : Claim7 := { stood := { row := costOwnRow, standIns := [], harness := (true, "a6035fca68148cbca7ec2949251ec65000e618cdfbaceb15cd7d20d1cbd0cb4f"), looks := false }, kinds := [], alts := [], laidByText := true, laidKinds := [.widerDeep], laidTests := true, laidLooks := .later }
def CostOwnCardSaid : Prop := Claim7.holds Tryd.pinned (.plain (OpenSpec.ofChange costOwnSpec)) costOwnCard

/-- THE SECOND FORM's CARD OF 'winnowlaw7.NamesResolves'. -/
def namesResolvesUptoCard : Claim7 := { stood := { row := namesResolvesUptoRow, standIns := [], harness := (true, "a6035fca68148cbca7ec2949251ec65000e618cdfbaceb15cd7d20d1cbd0cb4f"), looks := false }, kinds := [], alts := [], laidByText := true, laidKinds := [.widerDeep], laidTests := true, laidLooks := .later }
def NamesResolvesUptoCardSaid : Prop := Claim7.holds Tryd.pinned (.plain (OpenSpec.upto namesResolvesSpec)) namesResolvesUptoCard

/-- THE SECOND FORM's CARD OF 'winnowlaw7.NamesChecks'. -/
def namesChecksUptoCard : Claim7 := { stood := { row := namesChecksUptoRow, standIns := [], harness := (true, "a6035fca68148cbca7ec2949251ec65000e618cdfbaceb15cd7d20d1cbd0cb4f"), looks := false }, kinds := [], alts := [], laidByText := true, laidKinds := [.widerDeep], laidTests := true, laidLooks := .later }
def NamesChecksUptoCardSaid : Prop := Claim7.holds Tryd.pinned (.plain (OpenSpec.upto namesChecksSpec)) namesChecksUptoCard

/-- THE SECOND FORM's CARD OF 'winnowlaw7.NamesLaid'. -/
def namesLaidUptoCard : Claim7 := { stood := { row := namesLaidUptoRow, standIns := [], harness := (true, "a6035fca68148cbca7ec2949251ec65000e618cdfbaceb15cd7d20d1cbd0cb4f"), looks := false }, kinds := [], alts := [], laidByText := true, laidKinds := [.widerDeep], laidTests := true, laidLooks := .later }
def NamesLaidUptoCardSaid : Prop := Claim7.holds Tryd.pinned (.plain (OpenSpec.upto namesLaidSpec)) namesLaidUptoCard

/-- THE SECOND FORM's CARD OF 'winnowlaw7.NamesMany'. -/
def namesManyUptoCard : Claim7 := { stood := { row := namesManyUptoRow, standIns := [], harness := (true, "a6035fca68148cbca7ec2949251ec65000e618cdfbaceb15cd7d20d1cbd0cb4f"), looks := false }, kinds := [], alts := [], laidByText := true, laidKinds := [.widerDeep], laidTests := true, laidLooks := .later }
def NamesManyUptoCardSaid : Prop := Claim7.holds Tryd.pinned (.plain (OpenSpec.upto namesManySpec)) namesManyUptoCard

/-- THE SECOND FORM's CARD OF 'winnowlaw7.NamesLarge'. -/
def namesLargeUptoCard : Claim7 := { stood := { row := namesLargeUptoRow, standIns := [], harness := (true, "a6035fca68148cbca7ec2949251ec65000e618cdfbaceb15cd7d20d1cbd0cb4f"), looks := false }, kinds := [], alts := [], laidByText := true, laidKinds := [.widerDeep], laidTests := true, laidLooks := .later }
def NamesLargeUptoCardSaid : Prop := Claim7.holds Tryd.pinned (.plain (OpenSpec.upto namesLargeSpec)) namesLargeUptoCard

/-- THE SECOND FORM's CARD OF 'winnowlaw7.NamesRenamed'. -/
def namesRenamedUptoCard : Claim7 := { stood := { row := namesRenamedUptoRow, standIns := [], harness := (true, "a6035fca68148cbca7ec2949251ec65000e618cdfbaceb15cd7d20d1cbd0cb4f"), looks := false }, kinds := [], alts := [], laidByText := true, laidKinds := [.widerDeep], laidTests := true, laidLooks := .later }
def NamesRenamedUptoCardSaid : Prop := Claim7.holds Tryd.pinned (.plain (OpenSpec.upto namesRenamedSpec)) namesRenamedUptoCard

/-- THE SECOND FORM's CARD OF 'winnowlaw7.NamesTold'. -/
def namesToldUptoCard : Claim7 := { stood := { row := namesToldUptoRow, standIns := [], harness := (true, "a6035fca68148cbca7ec2949251ec65000e618cdfbaceb15cd7d20d1cbd0cb4f"), looks := false }, kinds := [], alts := [], laidByText := true, laidKinds := [.widerDeep], laidTests := true, laidLooks := .later }
def NamesToldUptoCardSaid : Prop := Claim7.holds Tryd.pinned (.plain (OpenSpec.upto namesToldSpec)) namesToldUptoCard

/-- THE SECOND FORM's CARD OF 'winnowlaw7.NamesOwn'. -/
def namesOwnUptoCard : Claim7 := { stood := { row := namesOwnUptoRow, standIns := [], harness := (true, "a6035fca68148cbca7ec2949251ec65000e618cdfbaceb15cd7d20d1cbd0cb4f"), looks := false }, kinds := [], alts := [], laidByText := true, laidKinds := [.widerDeep], laidTests := true, laidLooks := .later }
def NamesOwnUptoCardSaid : Prop := Claim7.holds Tryd.pinned (.plain (OpenSpec.upto namesOwnSpec)) namesOwnUptoCard

/-- THE SECOND FORM's CARD OF 'winnowlaw10.CostGrows'. -/
def costGrowsUptoCard : Claim7 := { stood := { row := costGrowsUptoRow, standIns := [], harness := (true, "a6035fca68148cbca7ec2949251ec65000e618cdfbaceb15cd7d20d1cbd0cb4f"), looks := false }, kinds := [], alts := [], laidByText := true, laidKinds := [.widerDeep], laidTests := true, laidLooks := .later }
def CostGrowsUptoCardSaid : Prop := Claim7.holds Tryd.pinned (.plain (OpenSpec.upto costGrowsSpec)) costGrowsUptoCard

/-- THE SECOND FORM's CARD OF 'winnowlaw10.CostOwn'. -/
def costOwnUptoCard : Claim7 := { stood := { row := costOwnUptoRow, standIns := [], harness := (true, "a6035fca68148cbca7ec2949251ec65000e618cdfbaceb15cd7d20d1cbd0cb4f"), looks := false }, kinds := [], alts := [], laidByText := true, laidKinds := [.widerDeep], laidTests := true, laidLooks := .later }
def CostOwnUptoCardSaid : Prop := Claim7.holds Tryd.pinned (.plain (OpenSpec.upto costOwnSpec)) costOwnUptoCard
end Rows
end Go.Proofs.YtipekdhneagdbaaDoor
