/-
  NARROWER THAN 'FOR EVERY INPUT', by the rows' own cells (each row's printed sentence says how): TypedTypes: laid · TypedFits: laid · TypedConsts: laid · TypedChecks: laid.
  DERIVED. THE GIVEN ROWS OF THIS SEAT. 4 by the template 'for every input the law returns true; each argument reads behind the call as it read before'; 0 by the template 'total and deterministic' (their statements: YtdejoodfeljmkaaGreatDoorTotals.lean).
  GIVEN WITH THE SEED: the statements are not yours to turn. If you find one false, say at which input.
  Laid BY PROGRAM, IN A SANDBOX (cutbox-rows.mjs): the forced cells as the released guide's own fill.sh prints them over the translation ab838d7db5ee3e96… (all of the seat's roots in one cut). By AI agents, Wed Nov 11 2026. No macro, syntax, notation, axiom, sorry.
-/
import Derived.Test.YtdejoodfeljmkaaGreatDoorChecked
import GoSem.Claim
import GoSem.ClaimJoined
import GoSem.ClaimMapViews
import Derived.JoinedTies
import Derived.KernelRfl
namespace Go.Proofs.YtdejoodfeljmkaaGreatDoor
/- THE CELL 'sum', in the pinned program and in every row, IS THE sha256 OF THE DUMP (.gsa) THAT YtdejoodfeljmkaaGreatDoorProg.lean LOADS. Nothing in Lean hashes anything: it is a label: what it is worth is what the hold of that sum in a sandbox is worth. -/
noncomputable def Tryz.pinned : Pinned := { name := "ytdejoodfeljmkaagreatdoor", sum := "ab838d7db5ee3e962eb6d8eab6c70b75a92d459fb8cd55332b1388609f320816", checked := Tryz.checked }
namespace Rows
def none {H : Type} : Left H := { results := [], args := [] }

/- WHAT THE LISTED PACKAGE-LEVEL VARIABLES READ AS WHEN THE CALL BEGINS. Each datum BY PROGRAM (the guide's laid-datum.mjs) off the statement by which the dump's own 'gosem.cut.vars' lays the variable. In a bare row this is a premise. The card (YtdejoodfeljmkaaGreatDoorCards.lean) ties it to the program's text. -/
def laid_winnow_lex_words {H : Type} : DataW H := .agg [.lit (.string [112, 111, 108, 105, 99, 121]), .lit (.string [113, 117, 101, 117, 101]), .lit (.string [114, 101, 115, 105, 100, 101, 110, 116]), .lit (.string [103, 104, 111, 115, 116]), .lit (.string [118, 97, 114]), .lit (.string [105, 110]), .lit (.string [116, 97, 103]), .lit (.string [114, 101, 113, 117, 105, 114, 101]), .lit (.string [114, 117, 108, 101]), .lit (.string [111, 110]), .lit (.string [104, 105, 116]), .lit (.string [109, 105, 115, 115]), .lit (.string [105, 102]), .lit (.string [101, 108, 115, 101]), .lit (.string [108, 111, 111, 112]), .lit (.string [119, 104, 105, 108, 101]), .lit (.string [115, 101, 116]), .lit (.string [109, 97, 114, 107]), .lit (.string [105, 110, 115, 101, 114, 116]), .lit (.string [109, 111, 118, 101]), .lit (.string [102, 111, 114, 103, 101, 116]), .lit (.string [115, 104, 105, 102, 116]), .lit (.string [101, 118, 105, 99, 116]), .lit (.string [116, 111]), .lit (.string [100, 114, 111, 112]), .lit (.string [99, 97, 108, 108]), .lit (.string [112, 97, 115, 115]), .lit (.string [102, 114, 111, 110, 116]), .lit (.string [98, 97, 99, 107]), .lit (.string [120]), .lit (.string [116, 114, 117, 101]), .lit (.string [102, 97, 108, 115, 101]), .lit (.string [108, 101, 110]), .lit (.string [99, 97, 112]), .lit (.string [115, 105, 122, 101]), .lit (.string [116, 111, 116, 97, 108]), .lit (.string [101, 109, 112, 116, 121]), .lit (.string [102, 117, 108, 108]), .lit (.string [97, 116]), .lit (.string [109, 105, 110]), .lit (.string [109, 97, 120])]

/-- 'winnowlaw8.TypedTypes': WHATEVER THE INPUT: true; the input reads as it did. -/
def typedTypesSpec : ChangeSpec := { name := "typedTypes", fn := fun _ => fun
  | [d] => { results := [.lit (.bool true)], args := [d] }
  | _ => none }
def typedTypesRow : OpenClaim := { program := "ytdejoodfeljmkaagreatdoor", sum := "ab838d7db5ee3e962eb6d8eab6c70b75a92d459fb8cd55332b1388609f320816", func := "winnow/winnowlaw8.TypedTypes", spec := "typedTypes", unfollowed := true, recurses := true, named := ["winnow/lex.words"], apart := false, laid := [("winnow/lex.words", laid_winnow_lex_words)] }
def TypedTypesSaid : Prop := typedTypesRow.holds Tryz.pinned (OpenSpec.ofChange typedTypesSpec)

/-- ITS FALSE NEIGHBOUR: 'it returns false'. Refute it at one input. -/
def typedTypesWrong : ChangeSpec := { name := "typedTypes", fn := fun _ => fun
  | [d] => { results := [.lit (.bool false)], args := [d] }
  | _ => none }
def TypedTypesWrongFalsely : Prop := typedTypesRow.holds Tryz.pinned (OpenSpec.ofChange typedTypesWrong)

/-- 'winnowlaw8.TypedFits': WHATEVER THE INPUT: true; the input reads as it did. -/
def typedFitsSpec : ChangeSpec := { name := "typedFits", fn := fun _ => fun
  | [d1, d2] => { results := [.lit (.bool true)], args := [d1, d2] }
  | _ => none }
def typedFitsRow : OpenClaim := { program := "ytdejoodfeljmkaagreatdoor", sum := "ab838d7db5ee3e962eb6d8eab6c70b75a92d459fb8cd55332b1388609f320816", func := "winnow/winnowlaw8.TypedFits", spec := "typedFits", unfollowed := true, recurses := true, named := ["winnow/lex.words"], apart := false, laid := [("winnow/lex.words", laid_winnow_lex_words)] }
def TypedFitsSaid : Prop := typedFitsRow.holds Tryz.pinned (OpenSpec.ofChange typedFitsSpec)

/-- ITS FALSE NEIGHBOUR: 'it returns false'. Refute it at one input. -/
def typedFitsWrong : ChangeSpec := { name := "typedFits", fn := fun _ => fun
  | [d1, d2] => { results := [.lit (.bool false)], args := [d1, d2] }
  | _ => none }
def TypedFitsWrongFalsely : Prop := typedFitsRow.holds Tryz.pinned (OpenSpec.ofChange typedFitsWrong)

/-- 'winnowlaw8.TypedConsts': WHATEVER THE INPUT: true; the input reads as it did. -/
def typedConstsSpec : ChangeSpec := { name := "typedConsts", fn := fun _ => fun
  | [d1, d2, d3] => { results := [.lit (.bool true)], args := [d1, d2, d3] }
  | _ => none }
def typedConstsRow : OpenClaim := { program := "ytdejoodfeljmkaagreatdoor", sum := "ab838d7db5ee3e962eb6d8eab6c70b75a92d459fb8cd55332b1388609f320816", func := "winnow/winnowlaw8.TypedConsts", spec := "typedConsts", unfollowed := true, recurses := true, named := ["winnow/lex.words"], apart := false, laid := [("winnow/lex.words", laid_winnow_lex_words)] }
def TypedConstsSaid : Prop := typedConstsRow.holds Tryz.pinned (OpenSpec.ofChange typedConstsSpec)

/-- ITS FALSE NEIGHBOUR: 'it returns false'. Refute it at one input. -/
def typedConstsWrong : ChangeSpec := { name := "typedConsts", fn := fun _ => fun
  | [d1, d2, d3] => { results := [.lit (.bool false)], args := [d1, d2, d3] }
  | _ => none }
def TypedConstsWrongFalsely : Prop := typedConstsRow.holds Tryz.pinned (OpenSpec.ofChange typedConstsWrong)

/-- 'winnowlaw8.TypedChecks': WHATEVER THE INPUT: true; the input reads as it did. -/
def typedChecksSpec : ChangeSpec := { name := "typedChecks", fn := fun _ => fun
  | [d1, d2] => { results := [.lit (.bool true)], args := [d1, d2] }
  | _ => none }
def typedChecksRow : OpenClaim := { program := "ytdejoodfeljmkaagreatdoor", sum := "ab838d7db5ee3e962eb6d8eab6c70b75a92d459fb8cd55332b1388609f320816", func := "winnow/winnowlaw8.TypedChecks", spec := "typedChecks", unfollowed := true, recurses := true, named := ["winnow/lex.words"], apart := false, laid := [("winnow/lex.words", laid_winnow_lex_words)] }
def TypedChecksSaid : Prop := typedChecksRow.holds Tryz.pinned (OpenSpec.ofChange typedChecksSpec)

/-- ITS FALSE NEIGHBOUR: 'it returns false'. Refute it at one input. -/
def typedChecksWrong : ChangeSpec := { name := "typedChecks", fn := fun _ => fun
  | [d1, d2] => { results := [.lit (.bool false)], args := [d1, d2] }
  | _ => none }
def TypedChecksWrongFalsely : Prop := typedChecksRow.holds Tryz.pinned (OpenSpec.ofChange typedChecksWrong)

/- THE SECOND FORM. 'bulk': how many values and letters a reading holds, each counted each time it is reached (what is shared counts as often as it is met; a slice's spare places count too). A statement '..UptoSaid' is the law's where the arguments, and the package variables that the reading takes, are together of bulk at most 1048576: NARROWER than '..Said'. Prove '..Said' where nothing that the law and all that it calls make is longer than what came in: it says more and counts as full. Else prove '..UptoSaid'. A law counts once. -/
mutual
def uptoBulk {H : Type} : DataW H → Nat
  | .lit (.string bytes) => bytes.length + 1
  | .lit _ => 1
  | .nil => 1
  | .ptr d => uptoBulk d + 1
  | .slice elems spare => uptoBulkAll elems + uptoBulkAll spare + 1
  | .agg parts => uptoBulkAll parts + 1
  | .iface _ d => uptoBulk d + 1
  | .map entries => uptoBulkEntries entries + 1
  | .held _ => 1
def uptoBulkAll {H : Type} : List (DataW H) → Nat
  | [] => 0
  | d :: r => uptoBulk d + uptoBulkAll r
def uptoBulkEntries {H : Type} : List (Lit × DataW H) → Nat
  | [] => 0
  | x :: r => uptoBulkEntry x + uptoBulkEntries r
def uptoBulkEntry {H : Type} : Lit × DataW H → Nat
  | (.string bytes, d) => bytes.length + uptoBulk d + 1
  | (_, d) => uptoBulk d + 1
 end
def uptoSmall : (H : Type) → List (DataW H) → Bool := fun _ ds => decide (uptoBulkAll ds ≤ 1048576)
def OpenSpec.upto (s : _root_.Go.ChangeSpec) : _root_.Go.OpenSpec := { _root_.Go.OpenSpec.ofChange s with cond := some uptoSmall }

/-- 'winnowlaw8.TypedTypes', WHERE WHAT IT READS IS OF BULK AT MOST 1048576: true; the input reads as it did. -/
def typedTypesUptoRow : OpenClaim := { program := "ytdejoodfeljmkaagreatdoor", sum := "ab838d7db5ee3e962eb6d8eab6c70b75a92d459fb8cd55332b1388609f320816", func := "winnow/winnowlaw8.TypedTypes", spec := "typedTypes", unfollowed := true, recurses := true, named := ["winnow/lex.words"], apart := false, laid := [("winnow/lex.words", laid_winnow_lex_words)], narrowed := true }
def TypedTypesUptoSaid : Prop := typedTypesUptoRow.holds Tryz.pinned (OpenSpec.upto typedTypesSpec)

/-- 'winnowlaw8.TypedFits', WHERE WHAT IT READS IS OF BULK AT MOST 1048576: true; the input reads as it did. -/
def typedFitsUptoRow : OpenClaim := { program := "ytdejoodfeljmkaagreatdoor", sum := "ab838d7db5ee3e962eb6d8eab6c70b75a92d459fb8cd55332b1388609f320816", func := "winnow/winnowlaw8.TypedFits", spec := "typedFits", unfollowed := true, recurses := true, named := ["winnow/lex.words"], apart := false, laid := [("winnow/lex.words", laid_winnow_lex_words)], narrowed := true }
def TypedFitsUptoSaid : Prop := typedFitsUptoRow.holds Tryz.pinned (OpenSpec.upto typedFitsSpec)

/-- 'winnowlaw8.TypedConsts', WHERE WHAT IT READS IS OF BULK AT MOST 1048576: true; the input reads as it did. -/
def typedConstsUptoRow : OpenClaim := { program := "ytdejoodfeljmkaagreatdoor", sum := "ab838d7db5ee3e962eb6d8eab6c70b75a92d459fb8cd55332b1388609f320816", func := "winnow/winnowlaw8.TypedConsts", spec := "typedConsts", unfollowed := true, recurses := true, named := ["winnow/lex.words"], apart := false, laid := [("winnow/lex.words", laid_winnow_lex_words)], narrowed := true }
def TypedConstsUptoSaid : Prop := typedConstsUptoRow.holds Tryz.pinned (OpenSpec.upto typedConstsSpec)

/-- 'winnowlaw8.TypedChecks', WHERE WHAT IT READS IS OF BULK AT MOST 1048576: true; the input reads as it did. -/
def typedChecksUptoRow : OpenClaim := { program := "ytdejoodfeljmkaagreatdoor", sum := "ab838d7db5ee3e962eb6d8eab6c70b75a92d459fb8cd55332b1388609f320816", func := "winnow/winnowlaw8.TypedChecks", spec := "typedChecks", unfollowed := true, recurses := true, named := ["winnow/lex.words"], apart := false, laid := [("winnow/lex.words", laid_winnow_lex_words)], narrowed := true }
def TypedChecksUptoSaid : Prop := typedChecksUptoRow.holds Tryz.pinned (OpenSpec.upto typedChecksSpec)

end Rows
end Go.Proofs.YtdejoodfeljmkaaGreatDoor
