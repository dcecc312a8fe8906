/-
  NARROWER THAN 'FOR EVERY INPUT', by the rows' own cells (each row's printed sentence says how): CostBounds: laid · CostTrees: laid.
  DERIVED. THE GIVEN ROWS OF THIS SEAT. 2 by the template 'for every input the law returns true; each argument reads behind the call as it read before'; 0 by the template 'total and deterministic' (their statements: YtipekdhneagdbaaGreatDoorTotals.lean).
  GIVEN WITH THE SEED: the statements are not yours to turn. If you find one false, say at which input.
  Laid BY PROGRAM, IN A SANDBOX (cutbox-rows.mjs): the forced cells as the released guide's own fill.sh prints them over the translation ccbd55d00692fd6a… (all of the seat's roots in one cut). By AI agents, Wed Nov 11 2026. No macro, syntax, notation, axiom, sorry.
-/
import Derived.Test.YtipekdhneagdbaaGreatDoorChecked
import GoSem.Claim
import GoSem.ClaimJoined
import GoSem.ClaimMapViews
import Derived.JoinedTies
import Derived.KernelRfl
namespace Go.Proofs.YtipekdhneagdbaaGreatDoor
/- THE CELL 'sum', in the pinned program and in every row, IS THE sha256 OF THE DUMP (.gsa) THAT YtipekdhneagdbaaGreatDoorProg.lean LOADS. Nothing in Lean hashes anything: it is a label: what it is worth is what the hold of that sum in a sandbox is worth. -/
noncomputable def Tryz.pinned : Pinned := { name := "ytipekdhneagdbaagreatdoor", sum := "ccbd55d00692fd6ad336caf9ab3e5f368ae71e4981cfbd2febec5c79a6b53408", checked := Tryz.checked }
namespace Rows
def none {H : Type} : Left H := { results := [], args := [] }

/- WHAT THE LISTED PACKAGE-LEVEL VARIABLES READ AS WHEN THE CALL BEGINS. Each datum BY PROGRAM (the guide's laid-datum.mjs) off the statement by which the dump's own 'gosem.cut.vars' lays the variable. In a bare row this is a premise. The card (YtipekdhneagdbaaGreatDoorCards.lean) ties it to the program's text. -/
def laid_winnow_lex_words {H : Type} : DataW H := .agg [.lit (.string [112, 111, 108, 105, 99, 121]), .lit (.string [113, 117, 101, 117, 101]), .lit (.string [114, 101, 115, 105, 100, 101, 110, 116]), .lit (.string [103, 104, 111, 115, 116]), .lit (.string [118, 97, 114]), .lit (.string [105, 110]), .lit (.string [116, 97, 103]), .lit (.string [114, 101, 113, 117, 105, 114, 101]), .lit (.string [114, 117, 108, 101]), .lit (.string [111, 110]), .lit (.string [104, 105, 116]), .lit (.string [109, 105, 115, 115]), .lit (.string [105, 102]), .lit (.string [101, 108, 115, 101]), .lit (.string [108, 111, 111, 112]), .lit (.string [119, 104, 105, 108, 101]), .lit (.string [115, 101, 116]), .lit (.string [109, 97, 114, 107]), .lit (.string [105, 110, 115, 101, 114, 116]), .lit (.string [109, 111, 118, 101]), .lit (.string [102, 111, 114, 103, 101, 116]), .lit (.string [115, 104, 105, 102, 116]), .lit (.string [101, 118, 105, 99, 116]), .lit (.string [116, 111]), .lit (.string [100, 114, 111, 112]), .lit (.string [99, 97, 108, 108]), .lit (.string [112, 97, 115, 115]), .lit (.string [102, 114, 111, 110, 116]), .lit (.string [98, 97, 99, 107]), .lit (.string [120]), .lit (.string [116, 114, 117, 101]), .lit (.string [102, 97, 108, 115, 101]), .lit (.string [108, 101, 110]), .lit (.string [99, 97, 112]), .lit (.string [115, 105, 122, 101]), .lit (.string [116, 111, 116, 97, 108]), .lit (.string [101, 109, 112, 116, 121]), .lit (.string [102, 117, 108, 108]), .lit (.string [97, 116]), .lit (.string [109, 105, 110]), .lit (.string [109, 97, 120])]

/-- 'winnowlaw10.CostBounds': WHATEVER THE INPUT: true; the input reads as it did. -/
def costBoundsSpec : ChangeSpec := { name := "costBounds", fn := fun _ => fun
  | [d1, d2] => { results := [.lit (.bool true)], args := [d1, d2] }
  | _ => none }
def costBoundsRow : OpenClaim := { program := "ytipekdhneagdbaagreatdoor", sum := "ccbd55d00692fd6ad336caf9ab3e5f368ae71e4981cfbd2febec5c79a6b53408", func := "winnow/winnowlaw10.CostBounds", spec := "costBounds", unfollowed := true, recurses := true, named := ["winnow/lex.words"], apart := false, laid := [("winnow/lex.words", laid_winnow_lex_words)] }
def CostBoundsSaid : Prop := costBoundsRow.holds Tryz.pinned (OpenSpec.ofChange costBoundsSpec)

/-- ITS FALSE NEIGHBOUR: 'it returns false'. Refute it at one input. -/
def costBoundsWrong : ChangeSpec := { name := "costBounds", fn := fun _ => fun
  | [d1, d2] => { results := [.lit (.bool false)], args := [d1, d2] }
  | _ => none }
def CostBoundsWrongFalsely : Prop := costBoundsRow.holds Tryz.pinned (OpenSpec.ofChange costBoundsWrong)

/-- 'winnowlaw10.CostTrees': WHATEVER THE INPUT: true; the input reads as it did. -/
def costTreesSpec : ChangeSpec := { name := "costTrees", fn := fun _ => fun
  | [d1, d2] => { results := [.lit (.bool true)], args := [d1, d2] }
  | _ => none }
def costTreesRow : OpenClaim := { program := "ytipekdhneagdbaagreatdoor", sum := "ccbd55d00692fd6ad336caf9ab3e5f368ae71e4981cfbd2febec5c79a6b53408", func := "winnow/winnowlaw10.CostTrees", spec := "costTrees", unfollowed := true, recurses := true, named := ["winnow/lex.words"], apart := false, laid := [("winnow/lex.words", laid_winnow_lex_words)] }
def CostTreesSaid : Prop := costTreesRow.holds Tryz.pinned (OpenSpec.ofChange costTreesSpec)

/-- ITS FALSE NEIGHBOUR: 'it returns false'. Refute it at one input. -/
def costTreesWrong : ChangeSpec := { name := "costTrees", fn := fun _ => fun
  | [d1, d2] => { results := [.lit (.bool false)], args := [d1, d2] }
  | _ => none }
def CostTreesWrongFalsely : Prop := costTreesRow.holds Tryz.pinned (OpenSpec.ofChange costTreesWrong)

/- THE SECOND FORM. 'bulk': how many values and letters a reading holds, each counted each time it is reached (what is shared counts as often as it is met; a slice's spare places count too). A statement '..UptoSaid' is the law's where the arguments, and the package variables that the reading takes, are together of bulk at most 1048576: NARROWER than '..Said'. Prove '..Said' where nothing that the law and all that it calls make is longer than what came in: it says more and counts as full. Else prove '..UptoSaid'. A law counts once. -/
mutual
def uptoBulk {H : Type} : DataW H → Nat
  | .lit (.string bytes) => bytes.length + 1
  | .lit _ => 1
  | .nil => 1
  | .ptr d => uptoBulk d + 1
  | .slice elems spare => uptoBulkAll elems + uptoBulkAll spare + 1
  | .agg parts => uptoBulkAll parts + 1
  | .iface _ d => uptoBulk d + 1
  | .map entries => uptoBulkEntries entries + 1
  | .held _ => 1
def uptoBulkAll {H : Type} : List (DataW H) → Nat
  | [] => 0
  | d :: r => uptoBulk d + uptoBulkAll r
def uptoBulkEntries {H : Type} : List (Lit × DataW H) → Nat
  | [] => 0
  | x :: r => uptoBulkEntry x + uptoBulkEntries r
def uptoBulkEntry {H : Type} : Lit × DataW H → Nat
  | (.string bytes, d) => bytes.length + uptoBulk d + 1
  | (_, d) => uptoBulk d + 1
 end
def uptoSmall : (H : Type) → List (DataW H) → Bool := fun _ ds => decide (uptoBulkAll ds ≤ 1048576)
def OpenSpec.upto (s : _root_.Go.ChangeSpec) : _root_.Go.OpenSpec := { _root_.Go.OpenSpec.ofChange s with cond := some uptoSmall }

/-- 'winnowlaw10.CostBounds', WHERE WHAT IT READS IS OF BULK AT MOST 1048576: true; the input reads as it did. -/
def costBoundsUptoRow : OpenClaim := { program := "ytipekdhneagdbaagreatdoor", sum := "ccbd55d00692fd6ad336caf9ab3e5f368ae71e4981cfbd2febec5c79a6b53408", func := "winnow/winnowlaw10.CostBounds", spec := "costBounds", unfollowed := true, recurses := true, named := ["winnow/lex.words"], apart := false, laid := [("winnow/lex.words", laid_winnow_lex_words)], narrowed := true }
def CostBoundsUptoSaid : Prop := costBoundsUptoRow.holds Tryz.pinned (OpenSpec.upto costBoundsSpec)

/-- 'winnowlaw10.CostTrees', WHERE WHAT IT READS IS OF BULK AT MOST 1048576: true; the input reads as it did. -/
def costTreesUptoRow : OpenClaim := { program := "ytipekdhneagdbaagreatdoor", sum := "ccbd55d00692fd6ad336caf9ab3e5f368ae71e4981cfbd2febec5c79a6b53408", func := "winnow/winnowlaw10.CostTrees", spec := "costTrees", unfollowed := true, recurses := true, named := ["winnow/lex.words"], apart := false, laid := [("winnow/lex.words", laid_winnow_lex_words)], narrowed := true }
def CostTreesUptoSaid : Prop := costTreesUptoRow.holds Tryz.pinned (OpenSpec.upto costTreesSpec)

end Rows
end Go.Proofs.YtipekdhneagdbaaGreatDoor
