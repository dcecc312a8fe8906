/-
  NARROWER THAN 'FOR EVERY INPUT', by the rows' own cells (each row's printed sentence says how): TypedNumbers: laid · TypedFloor: laid · TypedSizes: laid · TypedAgrees: laid · TypedOwn: laid.
  DERIVED. THE GIVEN ROWS OF THIS SEAT. 5 by the template 'for every input the law returns true; each argument reads behind the call as it read before'; 0 by the template 'total and deterministic' (their statements: YtdejoodfeljmkaaDoorTotals.lean).
  GIVEN WITH THE SEED: the statements are not yours to turn. If you find one false, say at which input.
  Laid BY PROGRAM, IN A SANDBOX (cutbox-rows.mjs): the forced cells as the released guide's own fill.sh prints them over the translation ea72576a5063ed80… (all of the seat's roots in one cut). By AI agents, Wed Nov 11 2026. No macro, syntax, notation, axiom, sorry.
-/
import Derived.Test.YtdejoodfeljmkaaDoorChecked
import GoSem.Claim
import GoSem.ClaimJoined
import GoSem.ClaimMapViews
import Derived.JoinedTies
import Derived.KernelRfl
namespace Go.Proofs.YtdejoodfeljmkaaDoor
/- THE CELL 'sum', in the pinned program and in every row, IS THE sha256 OF THE DUMP (.gsa) THAT YtdejoodfeljmkaaDoorProg.lean LOADS. Nothing in Lean hashes anything: it is a label: what it is worth is what the hold of that sum in a sandbox is worth. -/
noncomputable def Tryd.pinned : Pinned := { name := "ytdejoodfeljmkaadoor", sum := "ea72576a5063ed80bb382aca57f11d1e5fda30b85fbcffa8a20e25e984082d58", checked := Tryd.checked }
namespace Rows
def none {H : Type} : Left H := { results := [], args := [] }

/- WHAT THE LISTED PACKAGE-LEVEL VARIABLES READ AS WHEN THE CALL BEGINS. Each datum BY PROGRAM (the guide's laid-datum.mjs) off the statement by which the dump's own 'gosem.cut.vars' lays the variable. In a bare row this is a premise. The card (YtdejoodfeljmkaaDoorCards.lean) ties it to the program's text. -/
def laid_winnow_lex_words {H : Type} : DataW H := .agg [.lit (.string [112, 111, 108, 105, 99, 121]), .lit (.string [113, 117, 101, 117, 101]), .lit (.string [114, 101, 115, 105, 100, 101, 110, 116]), .lit (.string [103, 104, 111, 115, 116]), .lit (.string [118, 97, 114]), .lit (.string [105, 110]), .lit (.string [116, 97, 103]), .lit (.string [114, 101, 113, 117, 105, 114, 101]), .lit (.string [114, 117, 108, 101]), .lit (.string [111, 110]), .lit (.string [104, 105, 116]), .lit (.string [109, 105, 115, 115]), .lit (.string [105, 102]), .lit (.string [101, 108, 115, 101]), .lit (.string [108, 111, 111, 112]), .lit (.string [119, 104, 105, 108, 101]), .lit (.string [115, 101, 116]), .lit (.string [109, 97, 114, 107]), .lit (.string [105, 110, 115, 101, 114, 116]), .lit (.string [109, 111, 118, 101]), .lit (.string [102, 111, 114, 103, 101, 116]), .lit (.string [115, 104, 105, 102, 116]), .lit (.string [101, 118, 105, 99, 116]), .lit (.string [116, 111]), .lit (.string [100, 114, 111, 112]), .lit (.string [99, 97, 108, 108]), .lit (.string [112, 97, 115, 115]), .lit (.string [102, 114, 111, 110, 116]), .lit (.string [98, 97, 99, 107]), .lit (.string [120]), .lit (.string [116, 114, 117, 101]), .lit (.string [102, 97, 108, 115, 101]), .lit (.string [108, 101, 110]), .lit (.string [99, 97, 112]), .lit (.string [115, 105, 122, 101]), .lit (.string [116, 111, 116, 97, 108]), .lit (.string [101, 109, 112, 116, 121]), .lit (.string [102, 117, 108, 108]), .lit (.string [97, 116]), .lit (.string [109, 105, 110]), .lit (.string [109, 97, 120])]

/-- 'winnowlaw8.TypedNumbers': WHATEVER THE INPUT: true; the input reads as it did. -/
def typedNumbersSpec : ChangeSpec := { name := "typedNumbers", fn := fun _ => fun
  | [d1, d2] => { results := [.lit (.bool true)], args := [d1, d2] }
  | _ => none }
def typedNumbersRow : OpenClaim := { program := "ytdejoodfeljmkaadoor", sum := "ea72576a5063ed80bb382aca57f11d1e5fda30b85fbcffa8a20e25e984082d58", func := "winnow/winnowlaw8.TypedNumbers", spec := "typedNumbers", unfollowed := true, recurses := true, named := ["winnow/lex.words"], apart := false, laid := [("winnow/lex.words", laid_winnow_lex_words)] }
def TypedNumbersSaid : Prop := typedNumbersRow.holds Tryd.pinned (OpenSpec.ofChange typedNumbersSpec)

/-- ITS FALSE NEIGHBOUR: 'it returns false'. Refute it at one input. -/
def typedNumbersWrong : ChangeSpec := { name := "typedNumbers", fn := fun _ => fun
  | [d1, d2] => { results := [.lit (.bool false)], args := [d1, d2] }
  | _ => none }
def TypedNumbersWrongFalsely : Prop := typedNumbersRow.holds Tryd.pinned (OpenSpec.ofChange typedNumbersWrong)

/-- 'winnowlaw8.TypedFloor': WHATEVER THE INPUT: true; the input reads as it did. -/
def typedFloorSpec : ChangeSpec := { name := "typedFloor", fn := fun _ => fun
  | [d1, d2] => { results := [.lit (.bool true)], args := [d1, d2] }
  | _ => none }
def typedFloorRow : OpenClaim := { program := "ytdejoodfeljmkaadoor", sum := "ea72576a5063ed80bb382aca57f11d1e5fda30b85fbcffa8a20e25e984082d58", func := "winnow/winnowlaw8.TypedFloor", spec := "typedFloor", unfollowed := true, recurses := true, named := ["winnow/lex.words"], apart := false, laid := [("winnow/lex.words", laid_winnow_lex_words)] }
def TypedFloorSaid : Prop := typedFloorRow.holds Tryd.pinned (OpenSpec.ofChange typedFloorSpec)

/-- ITS FALSE NEIGHBOUR: 'it returns false'. Refute it at one input. -/
def typedFloorWrong : ChangeSpec := { name := "typedFloor", fn := fun _ => fun
  | [d1, d2] => { results := [.lit (.bool false)], args := [d1, d2] }
  | _ => none }
def TypedFloorWrongFalsely : Prop := typedFloorRow.holds Tryd.pinned (OpenSpec.ofChange typedFloorWrong)

/-- 'winnowlaw8.TypedSizes': WHATEVER THE INPUT: true; the input reads as it did. -/
def typedSizesSpec : ChangeSpec := { name := "typedSizes", fn := fun _ => fun
  | [d1, d2, d3, d4] => { results := [.lit (.bool true)], args := [d1, d2, d3, d4] }
  | _ => none }
def typedSizesRow : OpenClaim := { program := "ytdejoodfeljmkaadoor", sum := "ea72576a5063ed80bb382aca57f11d1e5fda30b85fbcffa8a20e25e984082d58", func := "winnow/winnowlaw8.TypedSizes", spec := "typedSizes", unfollowed := true, recurses := true, named := ["winnow/lex.words"], apart := false, laid := [("winnow/lex.words", laid_winnow_lex_words)] }
def TypedSizesSaid : Prop := typedSizesRow.holds Tryd.pinned (OpenSpec.ofChange typedSizesSpec)

/-- ITS FALSE NEIGHBOUR: 'it returns false'. Refute it at one input. -/
def typedSizesWrong : ChangeSpec := { name := "typedSizes", fn := fun _ => fun
  | [d1, d2, d3, d4] => { results := [.lit (.bool false)], args := [d1, d2, d3, d4] }
  | _ => none }
def TypedSizesWrongFalsely : Prop := typedSizesRow.holds Tryd.pinned (OpenSpec.ofChange typedSizesWrong)

/-- 'winnowlaw8.TypedAgrees': WHATEVER THE INPUT: true; the input reads as it did. -/
def typedAgreesSpec : ChangeSpec := { name := "typedAgrees", fn := fun _ => fun
  | [d1, d2] => { results := [.lit (.bool true)], args := [d1, d2] }
  | _ => none }
def typedAgreesRow : OpenClaim := { program := "ytdejoodfeljmkaadoor", sum := "ea72576a5063ed80bb382aca57f11d1e5fda30b85fbcffa8a20e25e984082d58", func := "winnow/winnowlaw8.TypedAgrees", spec := "typedAgrees", unfollowed := true, recurses := true, named := ["winnow/lex.words"], apart := false, laid := [("winnow/lex.words", laid_winnow_lex_words)] }
def TypedAgreesSaid : Prop := typedAgreesRow.holds Tryd.pinned (OpenSpec.ofChange typedAgreesSpec)

/-- ITS FALSE NEIGHBOUR: 'it returns false'. Refute it at one input. -/
def typedAgreesWrong : ChangeSpec := { name := "typedAgrees", fn := fun _ => fun
  | [d1, d2] => { results := [.lit (.bool false)], args := [d1, d2] }
  | _ => none }
def TypedAgreesWrongFalsely : Prop := typedAgreesRow.holds Tryd.pinned (OpenSpec.ofChange typedAgreesWrong)

/-- 'winnowlaw8.TypedOwn': WHATEVER THE INPUT: true; the input reads as it did. -/
def typedOwnSpec : ChangeSpec := { name := "typedOwn", fn := fun _ => fun
  | [d1, d2, d3] => { results := [.lit (.bool true)], args := [d1, d2, d3] }
  | _ => none }
def typedOwnRow : OpenClaim := { program := "ytdejoodfeljmkaadoor", sum := "ea72576a5063ed80bb382aca57f11d1e5fda30b85fbcffa8a20e25e984082d58", func := "winnow/winnowlaw8.TypedOwn", spec := "typedOwn", unfollowed := true, recurses := true, named := ["winnow/lex.words"], apart := false, laid := [("winnow/lex.words", laid_winnow_lex_words)] }
def TypedOwnSaid : Prop := typedOwnRow.holds Tryd.pinned (OpenSpec.ofChange typedOwnSpec)

/-- ITS FALSE NEIGHBOUR: 'it returns false'. Refute it at one input. -/
def typedOwnWrong : ChangeSpec := { name := "typedOwn", fn := fun _ => fun
  | [d1, d2, d3] => { results := [.lit (.bool false)], args := [d1, d2, d3] }
  | _ => none }
def TypedOwnWrongFalsely : Prop := typedOwnRow.holds Tryd.pinned (OpenSpec.ofChange typedOwnWrong)

/- THE SECOND FORM. 'bulk': how many values and letters a reading holds, each counted each time it is reached (what is shared counts as often as it is met; a slice's spare places count too). A statement '..UptoSaid' is the law's where the arguments, and the package variables that the reading takes, are together of bulk at most 1048576: NARROWER than '..Said'. Prove '..Said' where nothing that the law and all that it calls make is longer than what came in: it says more and counts as full. Else prove '..UptoSaid'. A law counts once. -/
mutual
def uptoBulk {H : Type} : DataW H → Nat
  | .lit (.string bytes) => bytes.length + 1
  | .lit _ => 1
  | .nil => 1
  | .ptr d => uptoBulk d + 1
  | .slice elems spare => uptoBulkAll elems + uptoBulkAll spare + 1
  | .agg parts => uptoBulkAll parts + 1
  | .iface _ d => uptoBulk d + 1
  | .map entries => uptoBulkEntries entries + 1
  | .held _ => 1
def uptoBulkAll {H : Type} : List (DataW H) → Nat
  | [] => 0
  | d :: r => uptoBulk d + uptoBulkAll r
def uptoBulkEntries {H : Type} : List (Lit × DataW H) → Nat
  | [] => 0
  | x :: r => uptoBulkEntry x + uptoBulkEntries r
def uptoBulkEntry {H : Type} : Lit × DataW H → Nat
  | (.string bytes, d) => bytes.length + uptoBulk d + 1
  | (_, d) => uptoBulk d + 1
 end
def uptoSmall : (H : Type) → List (DataW H) → Bool := fun _ ds => decide (uptoBulkAll ds ≤ 1048576)
def OpenSpec.upto (s : _root_.Go.ChangeSpec) : _root_.Go.OpenSpec := { _root_.Go.OpenSpec.ofChange s with cond := some uptoSmall }

/-- 'winnowlaw8.TypedNumbers', WHERE WHAT IT READS IS OF BULK AT MOST 1048576: true; the input reads as it did. -/
def typedNumbersUptoRow : OpenClaim := { program := "ytdejoodfeljmkaadoor", sum := "ea72576a5063ed80bb382aca57f11d1e5fda30b85fbcffa8a20e25e984082d58", func := "winnow/winnowlaw8.TypedNumbers", spec := "typedNumbers", unfollowed := true, recurses := true, named := ["winnow/lex.words"], apart := false, laid := [("winnow/lex.words", laid_winnow_lex_words)], narrowed := true }
def TypedNumbersUptoSaid : Prop := typedNumbersUptoRow.holds Tryd.pinned (OpenSpec.upto typedNumbersSpec)

/-- 'winnowlaw8.TypedFloor', WHERE WHAT IT READS IS OF BULK AT MOST 1048576: true; the input reads as it did. -/
def typedFloorUptoRow : OpenClaim := { program := "ytdejoodfeljmkaadoor", sum := "ea72576a5063ed80bb382aca57f11d1e5fda30b85fbcffa8a20e25e984082d58", func := "winnow/winnowlaw8.TypedFloor", spec := "typedFloor", unfollowed := true, recurses := true, named := ["winnow/lex.words"], apart := false, laid := [("winnow/lex.words", laid_winnow_lex_words)], narrowed := true }
def TypedFloorUptoSaid : Prop := typedFloorUptoRow.holds Tryd.pinned (OpenSpec.upto typedFloorSpec)

/-- 'winnowlaw8.TypedSizes', WHERE WHAT IT READS IS OF BULK AT MOST 1048576: true; the input reads as it did. -/
def typedSizesUptoRow : OpenClaim := { program := "ytdejoodfeljmkaadoor", sum := "ea72576a5063ed80bb382aca57f11d1e5fda30b85fbcffa8a20e25e984082d58", func := "winnow/winnowlaw8.TypedSizes", spec := "typedSizes", unfollowed := true, recurses := true, named := ["winnow/lex.words"], apart := false, laid := [("winnow/lex.words", laid_winnow_lex_words)], narrowed := true }
def TypedSizesUptoSaid : Prop := typedSizesUptoRow.holds Tryd.pinned (OpenSpec.upto typedSizesSpec)

/-- 'winnowlaw8.TypedAgrees', WHERE WHAT IT READS IS OF BULK AT MOST 1048576: true; the input reads as it did. -/
def typedAgreesUptoRow : OpenClaim := { program := "ytdejoodfeljmkaadoor", sum := "ea72576a5063ed80bb382aca57f11d1e5fda30b85fbcffa8a20e25e984082d58", func := "winnow/winnowlaw8.TypedAgrees", spec := "typedAgrees", unfollowed := true, recurses := true, named := ["winnow/lex.words"], apart := false, laid := [("winnow/lex.words", laid_winnow_lex_words)], narrowed := true }
def TypedAgreesUptoSaid : Prop := typedAgreesUptoRow.holds Tryd.pinned (OpenSpec.upto typedAgreesSpec)

/-- 'winnowlaw8.TypedOwn', WHERE WHAT IT READS IS OF BULK AT MOST 1048576: true; the input reads as it did. -/
def typedOwnUptoRow : OpenClaim := { program := "ytdejoodfeljmkaadoor", sum := "ea72576a5063ed80bb382aca57f11d1e5fda30b85fbcffa8a20e25e984082d58", func := "winnow/winnowlaw8.TypedOwn", spec := "typedOwn", unfollowed := true, recurses := true, named := ["winnow/lex.words"], apart := false, laid := [("winnow/lex.words", laid_winnow_lex_words)], narrowed := true }
def TypedOwnUptoSaid : Prop := typedOwnUptoRow.holds Tryd.pinned (OpenSpec.upto typedOwnSpec)

end Rows
end Go.Proofs.YtdejoodfeljmkaaDoor
