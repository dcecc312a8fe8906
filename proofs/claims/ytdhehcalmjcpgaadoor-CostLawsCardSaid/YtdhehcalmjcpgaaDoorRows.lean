/-
  NARROWER THAN 'FOR EVERY INPUT', by the rows' own cells (each row's printed sentence says how): NamesResolves: laid · NamesChecks: laid · NamesLaid: laid · NamesMany: laid · NamesLarge: laid · NamesRenamed: laid · NamesTold: laid · NamesOwn: laid · NamesNames: laid · CostSums: laid · CostLaws: laid · CostNames: laid.
  DERIVED. THE GIVEN ROWS OF THIS SEAT. 12 by the template 'for every input the law returns true; each argument reads behind the call as it read before'; 0 by the template 'total and deterministic' (their statements: YtdhehcalmjcpgaaDoorTotals.lean).
  GIVEN WITH THE SEED: the statements are not yours to turn. If you find one false, say at which input.
  Laid BY PROGRAM, IN A SANDBOX (cutbox-rows.mjs): the forced cells as the released guide's own fill.sh prints them over the translation bd3297105089fa42… (all of the seat's roots in one cut). By AI agents, Wed Nov 11 2026. No macro, syntax, notation, axiom, sorry.
-/
import Derived.Test.YtdhehcalmjcpgaaDoorChecked
import GoSem.Claim
import GoSem.ClaimJoined
import GoSem.ClaimMapViews
import Derived.JoinedTies
import Derived.KernelRfl
namespace Go.Proofs.YtdhehcalmjcpgaaDoor
/- THE CELL 'sum', in the pinned program and in every row, IS THE sha256 OF THE DUMP (.gsa) THAT YtdhehcalmjcpgaaDoorProg.lean LOADS. Nothing in Lean hashes anything: it is a label: what it is worth is what the hold of that sum in a sandbox is worth. -/
noncomputable def Tryd.pinned : Pinned := { name := "ytdhehcalmjcpgaadoor", sum := "bd3297105089fa426ae589b44572b638ca802627ed267be04ea5e9e47c7492ae", checked := Tryd.checked }
namespace Rows
def none {H : Type} : Left H := { results := [], args := [] }

/- WHAT THE LISTED PACKAGE-LEVEL VARIABLES READ AS WHEN THE CALL BEGINS. Each datum BY PROGRAM (the guide's laid-datum.mjs) off the statement by which the dump's own 'gosem.cut.vars' lays the variable. In a bare row this is a premise. The card (YtdhehcalmjcpgaaDoorCards.lean) ties it to the program's text. -/
def laid_winnow_lex_words {H : Type} : DataW H := .agg [.lit (.string [112, 111, 108, 105, 99, 121]), .lit (.string [113, 117, 101, 117, 101]), .lit (.string [114, 101, 115, 105, 100, 101, 110, 116]), .lit (.string [103, 104, 111, 115, 116]), .lit (.string [118, 97, 114]), .lit (.string [105, 110]), .lit (.string [116, 97, 103]), .lit (.string [114, 101, 113, 117, 105, 114, 101]), .lit (.string [114, 117, 108, 101]), .lit (.string [111, 110]), .lit (.string [104, 105, 116]), .lit (.string [109, 105, 115, 115]), .lit (.string [105, 102]), .lit (.string [101, 108, 115, 101]), .lit (.string [108, 111, 111, 112]), .lit (.string [119, 104, 105, 108, 101]), .lit (.string [115, 101, 116]), .lit (.string [109, 97, 114, 107]), .lit (.string [105, 110, 115, 101, 114, 116]), .lit (.string [109, 111, 118, 101]), .lit (.string [102, 111, 114, 103, 101, 116]), .lit (.string [115, 104, 105, 102, 116]), .lit (.string [101, 118, 105, 99, 116]), .lit (.string [116, 111]), .lit (.string [100, 114, 111, 112]), .lit (.string [99, 97, 108, 108]), .lit (.string [112, 97, 115, 115]), .lit (.string [102, 114, 111, 110, 116]), .lit (.string [98, 97, 99, 107]), .lit (.string [120]), .lit (.string [116, 114, 117, 101]), .lit (.string [102, 97, 108, 115, 101]), .lit (.string [108, 101, 110]), .lit (.string [99, 97, 112]), .lit (.string [115, 105, 122, 101]), .lit (.string [116, 111, 116, 97, 108]), .lit (.string [101, 109, 112, 116, 121]), .lit (.string [102, 117, 108, 108]), .lit (.string [97, 116]), .lit (.string [109, 105, 110]), .lit (.string [109, 97, 120])]

/-- 'winnowlaw7.NamesResolves': WHATEVER THE INPUT: true; the input reads as it did. -/
def namesResolvesSpec : ChangeSpec := { name := "namesResolves", fn := fun _ => fun
  | [d] => { results := [.lit (.bool true)], args := [d] }
  | _ => none }
def namesResolvesRow : OpenClaim := { program := "ytdhehcalmjcpgaadoor", sum := "bd3297105089fa426ae589b44572b638ca802627ed267be04ea5e9e47c7492ae", func := "winnow/winnowlaw7.NamesResolves", spec := "namesResolves", unfollowed := true, recurses := true, named := ["winnow/lex.words"], apart := false, laid := [("winnow/lex.words", laid_winnow_lex_words)] }
def NamesResolvesSaid : Prop := namesResolvesRow.holds Tryd.pinned (OpenSpec.ofChange namesResolvesSpec)

/-- ITS FALSE NEIGHBOUR: 'it returns false'. Refute it at one input. -/
def namesResolvesWrong : ChangeSpec := { name := "namesResolves", fn := fun _ => fun
  | [d] => { results := [.lit (.bool false)], args := [d] }
  | _ => none }
def NamesResolvesWrongFalsely : Prop := namesResolvesRow.holds Tryd.pinned (OpenSpec.ofChange namesResolvesWrong)

/-- 'winnowlaw7.NamesChecks': WHATEVER THE INPUT: true; the input reads as it did. -/
def namesChecksSpec : ChangeSpec := { name := "namesChecks", fn := fun _ => fun
  | [d] => { results := [.lit (.bool true)], args := [d] }
  | _ => none }
def namesChecksRow : OpenClaim := { program := "ytdhehcalmjcpgaadoor", sum := "bd3297105089fa426ae589b44572b638ca802627ed267be04ea5e9e47c7492ae", func := "winnow/winnowlaw7.NamesChecks", spec := "namesChecks", unfollowed := true, recurses := true, named := ["winnow/lex.words"], apart := false, laid := [("winnow/lex.words", laid_winnow_lex_words)] }
def NamesChecksSaid : Prop := namesChecksRow.holds Tryd.pinned (OpenSpec.ofChange namesChecksSpec)

/-- ITS FALSE NEIGHBOUR: 'it returns false'. Refute it at one input. -/
def namesChecksWrong : ChangeSpec := { name := "namesChecks", fn := fun _ => fun
  | [d] => { results := [.lit (.bool false)], args := [d] }
  | _ => none }
def NamesChecksWrongFalsely : Prop := namesChecksRow.holds Tryd.pinned (OpenSpec.ofChange namesChecksWrong)

/-- 'winnowlaw7.NamesLaid': WHATEVER THE INPUT: true; the input reads as it did. -/
def namesLaidSpec : ChangeSpec := { name := "namesLaid", fn := fun _ => fun
  | [d1, d2] => { results := [.lit (.bool true)], args := [d1, d2] }
  | _ => none }
def namesLaidRow : OpenClaim := { program := "ytdhehcalmjcpgaadoor", sum := "bd3297105089fa426ae589b44572b638ca802627ed267be04ea5e9e47c7492ae", func := "winnow/winnowlaw7.NamesLaid", spec := "namesLaid", unfollowed := true, recurses := true, named := ["winnow/lex.words"], apart := false, laid := [("winnow/lex.words", laid_winnow_lex_words)] }
def NamesLaidSaid : Prop := namesLaidRow.holds Tryd.pinned (OpenSpec.ofChange namesLaidSpec)

/-- ITS FALSE NEIGHBOUR: 'it returns false'. Refute it at one input. -/
def namesLaidWrong : ChangeSpec := { name := "namesLaid", fn := fun _ => fun
  | [d1, d2] => { results := [.lit (.bool false)], args := [d1, d2] }
  | _ => none }
def NamesLaidWrongFalsely : Prop := namesLaidRow.holds Tryd.pinned (OpenSpec.ofChange namesLaidWrong)

/-- 'winnowlaw7.NamesMany': WHATEVER THE INPUT: true; the input reads as it did. -/
def namesManySpec : ChangeSpec := { name := "namesMany", fn := fun _ => fun
  | [d1, d2, d3, d4] => { results := [.lit (.bool true)], args := [d1, d2, d3, d4] }
  | _ => none }
def namesManyRow : OpenClaim := { program := "ytdhehcalmjcpgaadoor", sum := "bd3297105089fa426ae589b44572b638ca802627ed267be04ea5e9e47c7492ae", func := "winnow/winnowlaw7.NamesMany", spec := "namesMany", unfollowed := true, recurses := true, named := ["winnow/lex.words"], apart := false, laid := [("winnow/lex.words", laid_winnow_lex_words)] }
def NamesManySaid : Prop := namesManyRow.holds Tryd.pinned (OpenSpec.ofChange namesManySpec)

/-- ITS FALSE NEIGHBOUR: 'it returns false'. Refute it at one input. -/
def namesManyWrong : ChangeSpec := { name := "namesMany", fn := fun _ => fun
  | [d1, d2, d3, d4] => { results := [.lit (.bool false)], args := [d1, d2, d3, d4] }
  | _ => none }
def NamesManyWrongFalsely : Prop := namesManyRow.holds Tryd.pinned (OpenSpec.ofChange namesManyWrong)

/-- 'winnowlaw7.NamesLarge': WHATEVER THE INPUT: true; the input reads as it did. -/
def namesLargeSpec : ChangeSpec := { name := "namesLarge", fn := fun _ => fun
  | [d1, d2] => { results := [.lit (.bool true)], args := [d1, d2] }
  | _ => none }
def namesLargeRow : OpenClaim := { program := "ytdhehcalmjcpgaadoor", sum := "bd3297105089fa426ae589b44572b638ca802627ed267be04ea5e9e47c7492ae", func := "winnow/winnowlaw7.NamesLarge", spec := "namesLarge", unfollowed := true, recurses := true, named := ["winnow/lex.words"], apart := false, laid := [("winnow/lex.words", laid_winnow_lex_words)] }
def NamesLargeSaid : Prop := namesLargeRow.holds Tryd.pinned (OpenSpec.ofChange namesLargeSpec)

/-- ITS FALSE NEIGHBOUR: 'it returns false'. Refute it at one input. -/
def namesLargeWrong : ChangeSpec := { name := "namesLarge", fn := fun _ => fun
  | [d1, d2] => { results := [.lit (.bool false)], args := [d1, d2] }
  | _ => none }
def NamesLargeWrongFalsely : Prop := namesLargeRow.holds Tryd.pinned (OpenSpec.ofChange namesLargeWrong)

/-- 'winnowlaw7.NamesRenamed': WHATEVER THE INPUT: true; the input reads as it did. -/
def namesRenamedSpec : ChangeSpec := { name := "namesRenamed", fn := fun _ => fun
  | [d1, d2] => { results := [.lit (.bool true)], args := [d1, d2] }
  | _ => none }
def namesRenamedRow : OpenClaim := { program := "ytdhehcalmjcpgaadoor", sum := "bd3297105089fa426ae589b44572b638ca802627ed267be04ea5e9e47c7492ae", func := "winnow/winnowlaw7.NamesRenamed", spec := "namesRenamed", unfollowed := true, recurses := true, named := ["winnow/lex.words"], apart := false, laid := [("winnow/lex.words", laid_winnow_lex_words)] }
def NamesRenamedSaid : Prop := namesRenamedRow.holds Tryd.pinned (OpenSpec.ofChange namesRenamedSpec)

/-- ITS FALSE NEIGHBOUR: 'it returns false'. Refute it at one input. -/
def namesRenamedWrong : ChangeSpec := { name := "namesRenamed", fn := fun _ => fun
  | [d1, d2] => { results := [.lit (.bool false)], args := [d1, d2] }
  | _ => none }
def NamesRenamedWrongFalsely : Prop := namesRenamedRow.holds Tryd.pinned (OpenSpec.ofChange namesRenamedWrong)

/-- 'winnowlaw7.NamesTold': WHATEVER THE INPUT: true; the input reads as it did. -/
def namesToldSpec : ChangeSpec := { name := "namesTold", fn := fun _ => fun
  | [d1, d2, d3] => { results := [.lit (.bool true)], args := [d1, d2, d3] }
  | _ => none }
def namesToldRow : OpenClaim := { program := "ytdhehcalmjcpgaadoor", sum := "bd3297105089fa426ae589b44572b638ca802627ed267be04ea5e9e47c7492ae", func := "winnow/winnowlaw7.NamesTold", spec := "namesTold", unfollowed := true, recurses := true, named := ["winnow/lex.words"], apart := false, laid := [("winnow/lex.words", laid_winnow_lex_words)] }
def NamesToldSaid : Prop := namesToldRow.holds Tryd.pinned (OpenSpec.ofChange namesToldSpec)

/-- ITS FALSE NEIGHBOUR: 'it returns false'. Refute it at one input. -/
def namesToldWrong : ChangeSpec := { name := "namesTold", fn := fun _ => fun
  | [d1, d2, d3] => { results := [.lit (.bool false)], args := [d1, d2, d3] }
  | _ => none }
def NamesToldWrongFalsely : Prop := namesToldRow.holds Tryd.pinned (OpenSpec.ofChange namesToldWrong)

/-- 'winnowlaw7.NamesOwn': WHATEVER THE INPUT: true; the input reads as it did. -/
def namesOwnSpec : ChangeSpec := { name := "namesOwn", fn := fun _ => fun
  | [d] => { results := [.lit (.bool true)], args := [d] }
  | _ => none }
def namesOwnRow : OpenClaim := { program := "ytdhehcalmjcpgaadoor", sum := "bd3297105089fa426ae589b44572b638ca802627ed267be04ea5e9e47c7492ae", func := "winnow/winnowlaw7.NamesOwn", spec := "namesOwn", unfollowed := true, recurses := true, named := ["winnow/lex.words"], apart := false, laid := [("winnow/lex.words", laid_winnow_lex_words)] }
def NamesOwnSaid : Prop := namesOwnRow.holds Tryd.pinned (OpenSpec.ofChange namesOwnSpec)

/-- ITS FALSE NEIGHBOUR: 'it returns false'. Refute it at one input. -/
def namesOwnWrong : ChangeSpec := { name := "namesOwn", fn := fun _ => fun
  | [d] => { results := [.lit (.bool false)], args := [d] }
  | _ => none }
def NamesOwnWrongFalsely : Prop := namesOwnRow.holds Tryd.pinned (OpenSpec.ofChange namesOwnWrong)

/-- 'winnowlaw7.NamesNames': WHATEVER THE INPUT: true; the input reads as it did. -/
def namesNamesSpec : ChangeSpec := { name := "namesNames", fn := fun _ => fun
  | [] => { results := [.lit (.bool true)], args := [] }
  | _ => none }
def namesNamesRow : OpenClaim := { program := "ytdhehcalmjcpgaadoor", sum := "bd3297105089fa426ae589b44572b638ca802627ed267be04ea5e9e47c7492ae", func := "winnow/winnowlaw7.NamesNames", spec := "namesNames", unfollowed := true, recurses := true, named := ["winnow/lex.words"], apart := false, laid := [("winnow/lex.words", laid_winnow_lex_words)] }
def NamesNamesSaid : Prop := namesNamesRow.holds Tryd.pinned (OpenSpec.ofChange namesNamesSpec)

/-- ITS FALSE NEIGHBOUR: 'it returns false'. Refute it at one input. -/
def namesNamesWrong : ChangeSpec := { name := "namesNames", fn := fun _ => fun
  | [] => { results := [.lit (.bool false)], args := [] }
  | _ => none }
def NamesNamesWrongFalsely : Prop := namesNamesRow.holds Tryd.pinned (OpenSpec.ofChange namesNamesWrong)

/-- 'winnowlaw10.CostSums': WHATEVER THE INPUT: true; the input reads as it did. -/
def costSumsSpec : ChangeSpec := { name := "costSums", fn := fun _ => fun
  | [d] => { results := [.lit (.bool true)], args := [d] }
  | _ => none }
def costSumsRow : OpenClaim := { program := "ytdhehcalmjcpgaadoor", sum := "bd3297105089fa426ae589b44572b638ca802627ed267be04ea5e9e47c7492ae", func := "winnow/winnowlaw10.CostSums", spec := "costSums", unfollowed := true, recurses := true, named := ["winnow/lex.words"], apart := false, laid := [("winnow/lex.words", laid_winnow_lex_words)] }
def CostSumsSaid : Prop := costSumsRow.holds Tryd.pinned (OpenSpec.ofChange costSumsSpec)

/-- ITS FALSE NEIGHBOUR: 'it returns false'. Refute it at one input. -/
def costSumsWrong : ChangeSpec := { name := "costSums", fn := fun _ => fun
  | [d] => { results := [.lit (.bool false)], args := [d] }
  | _ => none }
def CostSumsWrongFalsely : Prop := costSumsRow.holds Tryd.pinned (OpenSpec.ofChange costSumsWrong)

/-- 'winnowlaw10.CostLaws': WHATEVER THE INPUT: true; the input reads as it did. -/
def costLawsSpec : ChangeSpec := { name := "costLaws", fn := fun _ => fun
  | [d1, d2, d3] => { results := [.lit (.bool true)], args := [d1, d2, d3] }
  | _ => none }
def costLawsRow : OpenClaim := { program := "ytdhehcalmjcpgaadoor", sum := "bd3297105089fa426ae589b44572b638ca802627ed267be04ea5e9e47c7492ae", func := "winnow/winnowlaw10.CostLaws", spec := "costLaws", unfollowed := true, recurses := true, named := ["winnow/lex.words"], apart := false, laid := [("winnow/lex.words", laid_winnow_lex_words)] }
def CostLawsSaid : Prop := costLawsRow.holds Tryd.pinned (OpenSpec.ofChange costLawsSpec)

/-- ITS FALSE NEIGHBOUR: 'it returns false'. Refute it at one input. -/
def costLawsWrong : ChangeSpec := { name := "costLaws", fn := fun _ => fun
  | [d1, d2, d3] => { results := [.lit (.bool false)], args := [d1, d2, d3] }
  | _ => none }
def CostLawsWrongFalsely : Prop := costLawsRow.holds Tryd.pinned (OpenSpec.ofChange costLawsWrong)

/-- 'winnowlaw10.CostNames': WHATEVER THE INPUT: true; the input reads as it did. -/
def costNamesSpec : ChangeSpec := { name := "costNames", fn := fun _ => fun
  | [] => { results := [.lit (.bool true)], args := [] }
  | _ => none }
def costNamesRow : OpenClaim := { program := "ytdhehcalmjcpgaadoor", sum := "bd3297105089fa426ae589b44572b638ca802627ed267be04ea5e9e47c7492ae", func := "winnow/winnowlaw10.CostNames", spec := "costNames", unfollowed := true, recurses := true, named := ["winnow/lex.words"], apart := false, laid := [("winnow/lex.words", laid_winnow_lex_words)] }
def CostNamesSaid : Prop := costNamesRow.holds Tryd.pinned (OpenSpec.ofChange costNamesSpec)

/-- ITS FALSE NEIGHBOUR: 'it returns false'. Refute it at one input. -/
def costNamesWrong : ChangeSpec := { name := "costNames", fn := fun _ => fun
  | [] => { results := [.lit (.bool false)], args := [] }
  | _ => none }
def CostNamesWrongFalsely : Prop := costNamesRow.holds Tryd.pinned (OpenSpec.ofChange costNamesWrong)

/- THE SECOND FORM. 'bulk': how many values and letters a reading holds, each counted each time it is reached (what is shared counts as often as it is met; a slice's spare places count too). A statement '..UptoSaid' is the law's where the arguments, and the package variables that the reading takes, are together of bulk at most 1048576: NARROWER than '..Said'. Prove '..Said' where nothing that the law and all that it calls make is longer than what came in: it says more and counts as full. Else prove '..UptoSaid'. A law counts once. -/
mutual
def uptoBulk {H : Type} : DataW H → Nat
  | .lit (.string bytes) => bytes.length + 1
  | .lit _ => 1
  | .nil => 1
  | .ptr d => uptoBulk d + 1
  | .slice elems spare => uptoBulkAll elems + uptoBulkAll spare + 1
  | .agg parts => uptoBulkAll parts + 1
  | .iface _ d => uptoBulk d + 1
  | .map entries => uptoBulkEntries entries + 1
  | .held _ => 1
def uptoBulkAll {H : Type} : List (DataW H) → Nat
  | [] => 0
  | d :: r => uptoBulk d + uptoBulkAll r
def uptoBulkEntries {H : Type} : List (Lit × DataW H) → Nat
  | [] => 0
  | x :: r => uptoBulkEntry x + uptoBulkEntries r
def uptoBulkEntry {H : Type} : Lit × DataW H → Nat
  | (.string bytes, d) => bytes.length + uptoBulk d + 1
  | (_, d) => uptoBulk d + 1
 end
def uptoSmall : (H : Type) → List (DataW H) → Bool := fun _ ds => decide (uptoBulkAll ds ≤ 1048576)
def OpenSpec.upto (s : _root_.Go.ChangeSpec) : _root_.Go.OpenSpec := { _root_.Go.OpenSpec.ofChange s with cond := some uptoSmall }

/-- 'winnowlaw7.NamesResolves', WHERE WHAT IT READS IS OF BULK AT MOST 1048576: true; the input reads as it did. -/
def namesResolvesUptoRow : OpenClaim := { program := "ytdhehcalmjcpgaadoor", sum := "bd3297105089fa426ae589b44572b638ca802627ed267be04ea5e9e47c7492ae", func := "winnow/winnowlaw7.NamesResolves", spec := "namesResolves", unfollowed := true, recurses := true, named := ["winnow/lex.words"], apart := false, laid := [("winnow/lex.words", laid_winnow_lex_words)], narrowed := true }
def NamesResolvesUptoSaid : Prop := namesResolvesUptoRow.holds Tryd.pinned (OpenSpec.upto namesResolvesSpec)

/-- 'winnowlaw7.NamesChecks', WHERE WHAT IT READS IS OF BULK AT MOST 1048576: true; the input reads as it did. -/
def namesChecksUptoRow : OpenClaim := { program := "ytdhehcalmjcpgaadoor", sum := "bd3297105089fa426ae589b44572b638ca802627ed267be04ea5e9e47c7492ae", func := "winnow/winnowlaw7.NamesChecks", spec := "namesChecks", unfollowed := true, recurses := true, named := ["winnow/lex.words"], apart := false, laid := [("winnow/lex.words", laid_winnow_lex_words)], narrowed := true }
def NamesChecksUptoSaid : Prop := namesChecksUptoRow.holds Tryd.pinned (OpenSpec.upto namesChecksSpec)

/-- 'winnowlaw7.NamesLaid', WHERE WHAT IT READS IS OF BULK AT MOST 1048576: true; the input reads as it did. -/
def namesLaidUptoRow : OpenClaim := { program := "ytdhehcalmjcpgaadoor", sum := "bd3297105089fa426ae589b44572b638ca802627ed267be04ea5e9e47c7492ae", func := "winnow/winnowlaw7.NamesLaid", spec := "namesLaid", unfollowed := true, recurses := true, named := ["winnow/lex.words"], apart := false, laid := [("winnow/lex.words", laid_winnow_lex_words)], narrowed := true }
def NamesLaidUptoSaid : Prop := namesLaidUptoRow.holds Tryd.pinned (OpenSpec.upto namesLaidSpec)

/-- 'winnowlaw7.NamesMany', WHERE WHAT IT READS IS OF BULK AT MOST 1048576: true; the input reads as it did. -/
def namesManyUptoRow : OpenClaim := { program := "ytdhehcalmjcpgaadoor", sum := "bd3297105089fa426ae589b44572b638ca802627ed267be04ea5e9e47c7492ae", func := "winnow/winnowlaw7.NamesMany", spec := "namesMany", unfollowed := true, recurses := true, named := ["winnow/lex.words"], apart := false, laid := [("winnow/lex.words", laid_winnow_lex_words)], narrowed := true }
def NamesManyUptoSaid : Prop := namesManyUptoRow.holds Tryd.pinned (OpenSpec.upto namesManySpec)

/-- 'winnowlaw7.NamesLarge', WHERE WHAT IT READS IS OF BULK AT MOST 1048576: true; the input reads as it did. -/
def namesLargeUptoRow : OpenClaim := { program := "ytdhehcalmjcpgaadoor", sum := "bd3297105089fa426ae589b44572b638ca802627ed267be04ea5e9e47c7492ae", func := "winnow/winnowlaw7.NamesLarge", spec := "namesLarge", unfollowed := true, recurses := true, named := ["winnow/lex.words"], apart := false, laid := [("winnow/lex.words", laid_winnow_lex_words)], narrowed := true }
def NamesLargeUptoSaid : Prop := namesLargeUptoRow.holds Tryd.pinned (OpenSpec.upto namesLargeSpec)

/-- 'winnowlaw7.NamesRenamed', WHERE WHAT IT READS IS OF BULK AT MOST 1048576: true; the input reads as it did. -/
def namesRenamedUptoRow : OpenClaim := { program := "ytdhehcalmjcpgaadoor", sum := "bd3297105089fa426ae589b44572b638ca802627ed267be04ea5e9e47c7492ae", func := "winnow/winnowlaw7.NamesRenamed", spec := "namesRenamed", unfollowed := true, recurses := true, named := ["winnow/lex.words"], apart := false, laid := [("winnow/lex.words", laid_winnow_lex_words)], narrowed := true }
def NamesRenamedUptoSaid : Prop := namesRenamedUptoRow.holds Tryd.pinned (OpenSpec.upto namesRenamedSpec)

/-- 'winnowlaw7.NamesTold', WHERE WHAT IT READS IS OF BULK AT MOST 1048576: true; the input reads as it did. -/
def namesToldUptoRow : OpenClaim := { program := "ytdhehcalmjcpgaadoor", sum := "bd3297105089fa426ae589b44572b638ca802627ed267be04ea5e9e47c7492ae", func := "winnow/winnowlaw7.NamesTold", spec := "namesTold", unfollowed := true, recurses := true, named := ["winnow/lex.words"], apart := false, laid := [("winnow/lex.words", laid_winnow_lex_words)], narrowed := true }
def NamesToldUptoSaid : Prop := namesToldUptoRow.holds Tryd.pinned (OpenSpec.upto namesToldSpec)

/-- 'winnowlaw7.NamesOwn', WHERE WHAT IT READS IS OF BULK AT MOST 1048576: true; the input reads as it did. -/
def namesOwnUptoRow : OpenClaim := { program := "ytdhehcalmjcpgaadoor", sum := "bd3297105089fa426ae589b44572b638ca802627ed267be04ea5e9e47c7492ae", func := "winnow/winnowlaw7.NamesOwn", spec := "namesOwn", unfollowed := true, recurses := true, named := ["winnow/lex.words"], apart := false, laid := [("winnow/lex.words", laid_winnow_lex_words)], narrowed := true }
def NamesOwnUptoSaid : Prop := namesOwnUptoRow.holds Tryd.pinned (OpenSpec.upto namesOwnSpec)

/-- 'winnowlaw7.NamesNames', WHERE WHAT IT READS IS OF BULK AT MOST 1048576: true; the input reads as it did. -/
def namesNamesUptoRow : OpenClaim := { program := "ytdhehcalmjcpgaadoor", sum := "bd3297105089fa426ae589b44572b638ca802627ed267be04ea5e9e47c7492ae", func := "winnow/winnowlaw7.NamesNames", spec := "namesNames", unfollowed := true, recurses := true, named := ["winnow/lex.words"], apart := false, laid := [("winnow/lex.words", laid_winnow_lex_words)], narrowed := true }
def NamesNamesUptoSaid : Prop := namesNamesUptoRow.holds Tryd.pinned (OpenSpec.upto namesNamesSpec)

/-- 'winnowlaw10.CostSums', WHERE WHAT IT READS IS OF BULK AT MOST 1048576: true; the input reads as it did. -/
def costSumsUptoRow : OpenClaim := { program := "ytdhehcalmjcpgaadoor", sum := "bd3297105089fa426ae589b44572b638ca802627ed267be04ea5e9e47c7492ae", func := "winnow/winnowlaw10.CostSums", spec := "costSums", unfollowed := true, recurses := true, named := ["winnow/lex.words"], apart := false, laid := [("winnow/lex.words", laid_winnow_lex_words)], narrowed := true }
def CostSumsUptoSaid : Prop := costSumsUptoRow.holds Tryd.pinned (OpenSpec.upto costSumsSpec)

/-- 'winnowlaw10.CostLaws', WHERE WHAT IT READS IS OF BULK AT MOST 1048576: true; the input reads as it did. -/
def costLawsUptoRow : OpenClaim := { program := "ytdhehcalmjcpgaadoor", sum := "bd3297105089fa426ae589b44572b638ca802627ed267be04ea5e9e47c7492ae", func := "winnow/winnowlaw10.CostLaws", spec := "costLaws", unfollowed := true, recurses := true, named := ["winnow/lex.words"], apart := false, laid := [("winnow/lex.words", laid_winnow_lex_words)], narrowed := true }
def CostLawsUptoSaid : Prop := costLawsUptoRow.holds Tryd.pinned (OpenSpec.upto costLawsSpec)

/-- 'winnowlaw10.CostNames', WHERE WHAT IT READS IS OF BULK AT MOST 1048576: true; the input reads as it did. -/
def costNamesUptoRow : OpenClaim := { program := "ytdhehcalmjcpgaadoor", sum := "bd3297105089fa426ae589b44572b638ca802627ed267be04ea5e9e47c7492ae", func := "winnow/winnowlaw10.CostNames", spec := "costNames", unfollowed := true, recurses := true, named := ["winnow/lex.words"], apart := false, laid := [("winnow/lex.words", laid_winnow_lex_words)], narrowed := true }
def CostNamesUptoSaid : Prop := costNamesUptoRow.holds Tryd.pinned (OpenSpec.upto costNamesSpec)

end Rows
end Go.Proofs.YtdhehcalmjcpgaaDoor
