/-
  NARROWER THAN 'FOR EVERY INPUT', by the rows' own cells (each row's printed sentence says how): DenoNews: laid · DenoPlays: laid · CostHolds: laid · DenoSound: laid · DenoKeys: laid · DenoLaid: laid · DenoApart: laid.
  DERIVED. THE GIVEN ROWS OF THIS SEAT. 7 by the template 'for every input the law returns true; each argument reads behind the call as it read before'; 0 by the template 'total and deterministic' (their statements: YtjailoenloejbaaGreatDoorTotals.lean).
  GIVEN WITH THE SEED: the statements are not yours to turn. If you find one false, say at which input.
  Laid BY PROGRAM, IN A SANDBOX (cutbox-rows.mjs): the forced cells as the released guide's own fill.sh prints them over the translation d708f01e6015e57f… (all of the seat's roots in one cut). By AI agents, Wed Nov 11 2026. No macro, syntax, notation, axiom, sorry.
-/
import Derived.Test.YtjailoenloejbaaGreatDoorChecked
import GoSem.Claim
import GoSem.ClaimJoined
import GoSem.ClaimMapViews
import Derived.JoinedTies
import Derived.KernelRfl
namespace Go.Proofs.YtjailoenloejbaaGreatDoor
/- THE CELL 'sum', in the pinned program and in every row, IS THE sha256 OF THE DUMP (.gsa) THAT YtjailoenloejbaaGreatDoorProg.lean LOADS. Nothing in Lean hashes anything: it is a label: what it is worth is what the hold of that sum in a sandbox is worth. -/
noncomputable def Tryz.pinned : Pinned := { name := "ytjailoenloejbaagreatdoor", sum := "d708f01e6015e57fddb7ecd8e75e0fb8093c740ab314ff8ea558349548d9bb1f", checked := Tryz.checked }
namespace Rows
def none {H : Type} : Left H := { results := [], args := [] }

/- WHAT THE LISTED PACKAGE-LEVEL VARIABLES READ AS WHEN THE CALL BEGINS. Each datum BY PROGRAM (the guide's laid-datum.mjs) off the statement by which the dump's own 'gosem.cut.vars' lays the variable. In a bare row this is a premise. The card (YtjailoenloejbaaGreatDoorCards.lean) ties it to the program's text. -/
def laid_winnow_lex_words {H : Type} : DataW H := .agg [.lit (.string [112, 111, 108, 105, 99, 121]), .lit (.string [113, 117, 101, 117, 101]), .lit (.string [114, 101, 115, 105, 100, 101, 110, 116]), .lit (.string [103, 104, 111, 115, 116]), .lit (.string [118, 97, 114]), .lit (.string [105, 110]), .lit (.string [116, 97, 103]), .lit (.string [114, 101, 113, 117, 105, 114, 101]), .lit (.string [114, 117, 108, 101]), .lit (.string [111, 110]), .lit (.string [104, 105, 116]), .lit (.string [109, 105, 115, 115]), .lit (.string [105, 102]), .lit (.string [101, 108, 115, 101]), .lit (.string [108, 111, 111, 112]), .lit (.string [119, 104, 105, 108, 101]), .lit (.string [115, 101, 116]), .lit (.string [109, 97, 114, 107]), .lit (.string [105, 110, 115, 101, 114, 116]), .lit (.string [109, 111, 118, 101]), .lit (.string [102, 111, 114, 103, 101, 116]), .lit (.string [115, 104, 105, 102, 116]), .lit (.string [101, 118, 105, 99, 116]), .lit (.string [116, 111]), .lit (.string [100, 114, 111, 112]), .lit (.string [99, 97, 108, 108]), .lit (.string [112, 97, 115, 115]), .lit (.string [102, 114, 111, 110, 116]), .lit (.string [98, 97, 99, 107]), .lit (.string [120]), .lit (.string [116, 114, 117, 101]), .lit (.string [102, 97, 108, 115, 101]), .lit (.string [108, 101, 110]), .lit (.string [99, 97, 112]), .lit (.string [115, 105, 122, 101]), .lit (.string [116, 111, 116, 97, 108]), .lit (.string [101, 109, 112, 116, 121]), .lit (.string [102, 117, 108, 108]), .lit (.string [97, 116]), .lit (.string [109, 105, 110]), .lit (.string [109, 97, 120])]

/-- 'winnowlaw11.DenoNews': WHATEVER THE INPUT: true; the input reads as it did. -/
def denoNewsSpec : ChangeSpec := { name := "denoNews", fn := fun _ => fun
  | [d1, d2, d3] => { results := [.lit (.bool true)], args := [d1, d2, d3] }
  | _ => none }
def denoNewsRow : OpenClaim := { program := "ytjailoenloejbaagreatdoor", sum := "d708f01e6015e57fddb7ecd8e75e0fb8093c740ab314ff8ea558349548d9bb1f", func := "winnow/winnowlaw11.DenoNews", spec := "denoNews", unfollowed := true, recurses := true, named := ["winnow/lex.words"], apart := false, laid := [("winnow/lex.words", laid_winnow_lex_words)] }
def DenoNewsSaid : Prop := denoNewsRow.holds Tryz.pinned (OpenSpec.ofChange denoNewsSpec)

/-- ITS FALSE NEIGHBOUR: 'it returns false'. Refute it at one input. -/
def denoNewsWrong : ChangeSpec := { name := "denoNews", fn := fun _ => fun
  | [d1, d2, d3] => { results := [.lit (.bool false)], args := [d1, d2, d3] }
  | _ => none }
def DenoNewsWrongFalsely : Prop := denoNewsRow.holds Tryz.pinned (OpenSpec.ofChange denoNewsWrong)

/-- 'winnowlaw11.DenoPlays': WHATEVER THE INPUT: true; the input reads as it did. -/
def denoPlaysSpec : ChangeSpec := { name := "denoPlays", fn := fun _ => fun
  | [d1, d2, d3] => { results := [.lit (.bool true)], args := [d1, d2, d3] }
  | _ => none }
def denoPlaysRow : OpenClaim := { program := "ytjailoenloejbaagreatdoor", sum := "d708f01e6015e57fddb7ecd8e75e0fb8093c740ab314ff8ea558349548d9bb1f", func := "winnow/winnowlaw11.DenoPlays", spec := "denoPlays", unfollowed := true, recurses := true, named := ["winnow/lex.words"], apart := false, laid := [("winnow/lex.words", laid_winnow_lex_words)] }
def DenoPlaysSaid : Prop := denoPlaysRow.holds Tryz.pinned (OpenSpec.ofChange denoPlaysSpec)

/-- ITS FALSE NEIGHBOUR: 'it returns false'. Refute it at one input. -/
def denoPlaysWrong : ChangeSpec := { name := "denoPlays", fn := fun _ => fun
  | [d1, d2, d3] => { results := [.lit (.bool false)], args := [d1, d2, d3] }
  | _ => none }
def DenoPlaysWrongFalsely : Prop := denoPlaysRow.holds Tryz.pinned (OpenSpec.ofChange denoPlaysWrong)

/-- 'winnowlaw10.CostHolds': WHATEVER THE INPUT: true; the input reads as it did. -/
def costHoldsSpec : ChangeSpec := { name := "costHolds", fn := fun _ => fun
  | [d1, d2, d3] => { results := [.lit (.bool true)], args := [d1, d2, d3] }
  | _ => none }
def costHoldsRow : OpenClaim := { program := "ytjailoenloejbaagreatdoor", sum := "d708f01e6015e57fddb7ecd8e75e0fb8093c740ab314ff8ea558349548d9bb1f", func := "winnow/winnowlaw10.CostHolds", spec := "costHolds", unfollowed := true, recurses := true, named := ["winnow/lex.words"], apart := false, laid := [("winnow/lex.words", laid_winnow_lex_words)] }
def CostHoldsSaid : Prop := costHoldsRow.holds Tryz.pinned (OpenSpec.ofChange costHoldsSpec)

/-- ITS FALSE NEIGHBOUR: 'it returns false'. Refute it at one input. -/
def costHoldsWrong : ChangeSpec := { name := "costHolds", fn := fun _ => fun
  | [d1, d2, d3] => { results := [.lit (.bool false)], args := [d1, d2, d3] }
  | _ => none }
def CostHoldsWrongFalsely : Prop := costHoldsRow.holds Tryz.pinned (OpenSpec.ofChange costHoldsWrong)

/-- 'winnowlaw11.DenoSound': WHATEVER THE INPUT: true; the input reads as it did. -/
def denoSoundSpec : ChangeSpec := { name := "denoSound", fn := fun _ => fun
  | [d1, d2, d3] => { results := [.lit (.bool true)], args := [d1, d2, d3] }
  | _ => none }
def denoSoundRow : OpenClaim := { program := "ytjailoenloejbaagreatdoor", sum := "d708f01e6015e57fddb7ecd8e75e0fb8093c740ab314ff8ea558349548d9bb1f", func := "winnow/winnowlaw11.DenoSound", spec := "denoSound", unfollowed := true, recurses := true, named := ["winnow/lex.words"], apart := false, laid := [("winnow/lex.words", laid_winnow_lex_words)] }
def DenoSoundSaid : Prop := denoSoundRow.holds Tryz.pinned (OpenSpec.ofChange denoSoundSpec)

/-- ITS FALSE NEIGHBOUR: 'it returns false'. Refute it at one input. -/
def denoSoundWrong : ChangeSpec := { name := "denoSound", fn := fun _ => fun
  | [d1, d2, d3] => { results := [.lit (.bool false)], args := [d1, d2, d3] }
  | _ => none }
def DenoSoundWrongFalsely : Prop := denoSoundRow.holds Tryz.pinned (OpenSpec.ofChange denoSoundWrong)

/-- 'winnowlaw11.DenoKeys': WHATEVER THE INPUT: true; the input reads as it did. -/
def denoKeysSpec : ChangeSpec := { name := "denoKeys", fn := fun _ => fun
  | [d1, d2, d3, d4] => { results := [.lit (.bool true)], args := [d1, d2, d3, d4] }
  | _ => none }
def denoKeysRow : OpenClaim := { program := "ytjailoenloejbaagreatdoor", sum := "d708f01e6015e57fddb7ecd8e75e0fb8093c740ab314ff8ea558349548d9bb1f", func := "winnow/winnowlaw11.DenoKeys", spec := "denoKeys", unfollowed := true, recurses := true, named := ["winnow/lex.words"], apart := false, laid := [("winnow/lex.words", laid_winnow_lex_words)] }
def DenoKeysSaid : Prop := denoKeysRow.holds Tryz.pinned (OpenSpec.ofChange denoKeysSpec)

/-- ITS FALSE NEIGHBOUR: 'it returns false'. Refute it at one input. -/
def denoKeysWrong : ChangeSpec := { name := "denoKeys", fn := fun _ => fun
  | [d1, d2, d3, d4] => { results := [.lit (.bool false)], args := [d1, d2, d3, d4] }
  | _ => none }
def DenoKeysWrongFalsely : Prop := denoKeysRow.holds Tryz.pinned (OpenSpec.ofChange denoKeysWrong)

/-- 'winnowlaw11.DenoLaid': WHATEVER THE INPUT: true; the input reads as it did. -/
def denoLaidSpec : ChangeSpec := { name := "denoLaid", fn := fun _ => fun
  | [d1, d2, d3, d4] => { results := [.lit (.bool true)], args := [d1, d2, d3, d4] }
  | _ => none }
def denoLaidRow : OpenClaim := { program := "ytjailoenloejbaagreatdoor", sum := "d708f01e6015e57fddb7ecd8e75e0fb8093c740ab314ff8ea558349548d9bb1f", func := "winnow/winnowlaw11.DenoLaid", spec := "denoLaid", unfollowed := true, recurses := true, named := ["winnow/lex.words"], apart := false, laid := [("winnow/lex.words", laid_winnow_lex_words)] }
def DenoLaidSaid : Prop := denoLaidRow.holds Tryz.pinned (OpenSpec.ofChange denoLaidSpec)

/-- ITS FALSE NEIGHBOUR: 'it returns false'. Refute it at one input. -/
def denoLaidWrong : ChangeSpec := { name := "denoLaid", fn := fun _ => fun
  | [d1, d2, d3, d4] => { results := [.lit (.bool false)], args := [d1, d2, d3, d4] }
  | _ => none }
def DenoLaidWrongFalsely : Prop := denoLaidRow.holds Tryz.pinned (OpenSpec.ofChange denoLaidWrong)

/-- 'winnowlaw11.DenoApart': WHATEVER THE INPUT: true; the input reads as it did. -/
def denoApartSpec : ChangeSpec := { name := "denoApart", fn := fun _ => fun
  | [d1, d2, d3, d4, d5] => { results := [.lit (.bool true)], args := [d1, d2, d3, d4, d5] }
  | _ => none }
def denoApartRow : OpenClaim := { program := "ytjailoenloejbaagreatdoor", sum := "d708f01e6015e57fddb7ecd8e75e0fb8093c740ab314ff8ea558349548d9bb1f", func := "winnow/winnowlaw11.DenoApart", spec := "denoApart", unfollowed := true, recurses := true, named := ["winnow/lex.words"], apart := false, laid := [("winnow/lex.words", laid_winnow_lex_words)] }
def DenoApartSaid : Prop := denoApartRow.holds Tryz.pinned (OpenSpec.ofChange denoApartSpec)

/-- ITS FALSE NEIGHBOUR: 'it returns false'. Refute it at one input. -/
def denoApartWrong : ChangeSpec := { name := "denoApart", fn := fun _ => fun
  | [d1, d2, d3, d4, d5] => { results := [.lit (.bool false)], args := [d1, d2, d3, d4, d5] }
  | _ => none }
def DenoApartWrongFalsely : Prop := denoApartRow.holds Tryz.pinned (OpenSpec.ofChange denoApartWrong)

/- THE SECOND FORM. 'bulk': how many values and letters a reading holds, each counted each time it is reached (what is shared counts as often as it is met; a slice's spare places count too). A statement '..UptoSaid' is the law's where the arguments, and the package variables that the reading takes, are together of bulk at most 1048576: NARROWER than '..Said'. Prove '..Said' where nothing that the law and all that it calls make is longer than what came in: it says more and counts as full. Else prove '..UptoSaid'. A law counts once. -/
mutual
def uptoBulk {H : Type} : DataW H → Nat
  | .lit (.string bytes) => bytes.length + 1
  | .lit _ => 1
  | .nil => 1
  | .ptr d => uptoBulk d + 1
  | .slice elems spare => uptoBulkAll elems + uptoBulkAll spare + 1
  | .agg parts => uptoBulkAll parts + 1
  | .iface _ d => uptoBulk d + 1
  | .map entries => uptoBulkEntries entries + 1
  | .held _ => 1
def uptoBulkAll {H : Type} : List (DataW H) → Nat
  | [] => 0
  | d :: r => uptoBulk d + uptoBulkAll r
def uptoBulkEntries {H : Type} : List (Lit × DataW H) → Nat
  | [] => 0
  | x :: r => uptoBulkEntry x + uptoBulkEntries r
def uptoBulkEntry {H : Type} : Lit × DataW H → Nat
  | (.string bytes, d) => bytes.length + uptoBulk d + 1
  | (_, d) => uptoBulk d + 1
 end
def uptoSmall : (H : Type) → List (DataW H) → Bool := fun _ ds => decide (uptoBulkAll ds ≤ 1048576)
def OpenSpec.upto (s : _root_.Go.ChangeSpec) : _root_.Go.OpenSpec := { _root_.Go.OpenSpec.ofChange s with cond := some uptoSmall }

/-- 'winnowlaw11.DenoNews', WHERE WHAT IT READS IS OF BULK AT MOST 1048576: true; the input reads as it did. -/
def denoNewsUptoRow : OpenClaim := { program := "ytjailoenloejbaagreatdoor", sum := "d708f01e6015e57fddb7ecd8e75e0fb8093c740ab314ff8ea558349548d9bb1f", func := "winnow/winnowlaw11.DenoNews", spec := "denoNews", unfollowed := true, recurses := true, named := ["winnow/lex.words"], apart := false, laid := [("winnow/lex.words", laid_winnow_lex_words)], narrowed := true }
def DenoNewsUptoSaid : Prop := denoNewsUptoRow.holds Tryz.pinned (OpenSpec.upto denoNewsSpec)

/-- 'winnowlaw11.DenoPlays', WHERE WHAT IT READS IS OF BULK AT MOST 1048576: true; the input reads as it did. -/
def denoPlaysUptoRow : OpenClaim := { program := "ytjailoenloejbaagreatdoor", sum := "d708f01e6015e57fddb7ecd8e75e0fb8093c740ab314ff8ea558349548d9bb1f", func := "winnow/winnowlaw11.DenoPlays", spec := "denoPlays", unfollowed := true, recurses := true, named := ["winnow/lex.words"], apart := false, laid := [("winnow/lex.words", laid_winnow_lex_words)], narrowed := true }
def DenoPlaysUptoSaid : Prop := denoPlaysUptoRow.holds Tryz.pinned (OpenSpec.upto denoPlaysSpec)

/-- 'winnowlaw10.CostHolds', WHERE WHAT IT READS IS OF BULK AT MOST 1048576: true; the input reads as it did. -/
def costHoldsUptoRow : OpenClaim := { program := "ytjailoenloejbaagreatdoor", sum := "d708f01e6015e57fddb7ecd8e75e0fb8093c740ab314ff8ea558349548d9bb1f", func := "winnow/winnowlaw10.CostHolds", spec := "costHolds", unfollowed := true, recurses := true, named := ["winnow/lex.words"], apart := false, laid := [("winnow/lex.words", laid_winnow_lex_words)], narrowed := true }
def CostHoldsUptoSaid : Prop := costHoldsUptoRow.holds Tryz.pinned (OpenSpec.upto costHoldsSpec)

/-- 'winnowlaw11.DenoSound', WHERE WHAT IT READS IS OF BULK AT MOST 1048576: true; the input reads as it did. -/
def denoSoundUptoRow : OpenClaim := { program := "ytjailoenloejbaagreatdoor", sum := "d708f01e6015e57fddb7ecd8e75e0fb8093c740ab314ff8ea558349548d9bb1f", func := "winnow/winnowlaw11.DenoSound", spec := "denoSound", unfollowed := true, recurses := true, named := ["winnow/lex.words"], apart := false, laid := [("winnow/lex.words", laid_winnow_lex_words)], narrowed := true }
def DenoSoundUptoSaid : Prop := denoSoundUptoRow.holds Tryz.pinned (OpenSpec.upto denoSoundSpec)

/-- 'winnowlaw11.DenoKeys', WHERE WHAT IT READS IS OF BULK AT MOST 1048576: true; the input reads as it did. -/
def denoKeysUptoRow : OpenClaim := { program := "ytjailoenloejbaagreatdoor", sum := "d708f01e6015e57fddb7ecd8e75e0fb8093c740ab314ff8ea558349548d9bb1f", func := "winnow/winnowlaw11.DenoKeys", spec := "denoKeys", unfollowed := true, recurses := true, named := ["winnow/lex.words"], apart := false, laid := [("winnow/lex.words", laid_winnow_lex_words)], narrowed := true }
def DenoKeysUptoSaid : Prop := denoKeysUptoRow.holds Tryz.pinned (OpenSpec.upto denoKeysSpec)

/-- 'winnowlaw11.DenoLaid', WHERE WHAT IT READS IS OF BULK AT MOST 1048576: true; the input reads as it did. -/
def denoLaidUptoRow : OpenClaim := { program := "ytjailoenloejbaagreatdoor", sum := "d708f01e6015e57fddb7ecd8e75e0fb8093c740ab314ff8ea558349548d9bb1f", func := "winnow/winnowlaw11.DenoLaid", spec := "denoLaid", unfollowed := true, recurses := true, named := ["winnow/lex.words"], apart := false, laid := [("winnow/lex.words", laid_winnow_lex_words)], narrowed := true }
def DenoLaidUptoSaid : Prop := denoLaidUptoRow.holds Tryz.pinned (OpenSpec.upto denoLaidSpec)

/-- 'winnowlaw11.DenoApart', WHERE WHAT IT READS IS OF BULK AT MOST 1048576: true; the input reads as it did. -/
def denoApartUptoRow : OpenClaim := { program := "ytjailoenloejbaagreatdoor", sum := "d708f01e6015e57fddb7ecd8e75e0fb8093c740ab314ff8ea558349548d9bb1f", func := "winnow/winnowlaw11.DenoApart", spec := "denoApart", unfollowed := true, recurses := true, named := ["winnow/lex.words"], apart := false, laid := [("winnow/lex.words", laid_winnow_lex_words)], narrowed := true }
def DenoApartUptoSaid : Prop := denoApartUptoRow.holds Tryz.pinned (OpenSpec.upto denoApartSpec)

end Rows
end Go.Proofs.YtjailoenloejbaaGreatDoor
