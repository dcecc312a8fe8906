/-
  NARROWER THAN 'FOR EVERY INPUT', by the rows' own cells (each row's printed sentence says how): NamesResolves: laid · NamesChecks: laid · NamesLaid: laid · NamesMany: laid · NamesLarge: laid · NamesRenamed: laid · NamesTold: laid · NamesOwn: laid · CostGrows: laid · CostOwn: laid.
  DERIVED. THE GIVEN ROWS OF THIS SEAT. 10 by the template 'for every input the law returns true; each argument reads behind the call as it read before'; 0 by the template 'total and deterministic' (their statements: YtipekdhneagdbaaDoorTotals.lean).
  GIVEN WITH THE SEED: the statements are not yours to turn. If you find one false, say at which input.
  Laid BY PROGRAM, IN A SANDBOX (cutbox-rows.mjs): the forced cells as the released guide's own fill.sh prints them over the translation bef7c2f9a942eacf… (all of the seat's roots in one cut). By AI agents, Wed Nov 11 2026. No macro, syntax, notation, axiom, sorry.
-/
import Derived.Test.YtipekdhneagdbaaDoorChecked
import GoSem.Claim
import GoSem.ClaimJoined
import GoSem.ClaimMapViews
import Derived.JoinedTies
import Derived.KernelRfl
namespace Go.Proofs.YtipekdhneagdbaaDoor
/- THE CELL 'sum', in the pinned program and in every row, IS THE sha256 OF THE DUMP (.gsa) THAT YtipekdhneagdbaaDoorProg.lean LOADS. Nothing in Lean hashes anything: it is a label: what it is worth is what the hold of that sum in a sandbox is worth. -/
noncomputable def Tryd.pinned : Pinned := { name := "ytipekdhneagdbaadoor", sum := "bef7c2f9a942eacfbb00bf1c54e45dc5cd18fb4318118f25bd17f9fe8184d302", checked := Tryd.checked }
namespace Rows
def none {H : Type} : Left H := { results := [], args := [] }

/- WHAT THE LISTED PACKAGE-LEVEL VARIABLES READ AS WHEN THE CALL BEGINS. Each datum BY PROGRAM (the guide's laid-datum.mjs) off the statement by which the dump's own 'gosem.cut.vars' lays the variable. In a bare row this is a premise. The card (YtipekdhneagdbaaDoorCards.lean) ties it to the program's text. -/
def laid_winnow_lex_words {H : Type} : DataW H := .agg [.lit (.string [112, 111, 108, 105, 99, 121]), .lit (.string [113, 117, 101, 117, 101]), .lit (.string [114, 101, 115, 105, 100, 101, 110, 116]), .lit (.string [103, 104, 111, 115, 116]), .lit (.string [118, 97, 114]), .lit (.string [105, 110]), .lit (.string [116, 97, 103]), .lit (.string [114, 101, 113, 117, 105, 114, 101]), .lit (.string [114, 117, 108, 101]), .lit (.string [111, 110]), .lit (.string [104, 105, 116]), .lit (.string [109, 105, 115, 115]), .lit (.string [105, 102]), .lit (.string [101, 108, 115, 101]), .lit (.string [108, 111, 111, 112]), .lit (.string [119, 104, 105, 108, 101]), .lit (.string [115, 101, 116]), .lit (.string [109, 97, 114, 107]), .lit (.string [105, 110, 115, 101, 114, 116]), .lit (.string [109, 111, 118, 101]), .lit (.string [102, 111, 114, 103, 101, 116]), .lit (.string [115, 104, 105, 102, 116]), .lit (.string [101, 118, 105, 99, 116]), .lit (.string [116, 111]), .lit (.string [100, 114, 111, 112]), .lit (.string [99, 97, 108, 108]), .lit (.string [112, 97, 115, 115]), .lit (.string [102, 114, 111, 110, 116]), .lit (.string [98, 97, 99, 107]), .lit (.string [120]), .lit (.string [116, 114, 117, 101]), .lit (.string [102, 97, 108, 115, 101]), .lit (.string [108, 101, 110]), .lit (.string [99, 97, 112]), .lit (.string [115, 105, 122, 101]), .lit (.string [116, 111, 116, 97, 108]), .lit (.string [101, 109, 112, 116, 121]), .lit (.string [102, 117, 108, 108]), .lit (.string [97, 116]), .lit (.string [109, 105, 110]), .lit (.string [109, 97, 120])]

/-- 'winnowlaw7.NamesResolves': WHATEVER THE INPUT: true; the input reads as it did. -/
def namesResolvesSpec : ChangeSpec := { name := "namesResolves", fn := fun _ => fun
  | [d] => { results := [.lit (.bool true)], args := [d] }
  | _ => none }
def namesResolvesRow : OpenClaim := { program := "ytipekdhneagdbaadoor", sum := "bef7c2f9a942eacfbb00bf1c54e45dc5cd18fb4318118f25bd17f9fe8184d302", func := "winnow/winnowlaw7.NamesResolves", spec := "namesResolves", unfollowed := true, recurses := true, named := ["winnow/lex.words"], apart := false, laid := [("winnow/lex.words", laid_winnow_lex_words)] }
def NamesResolvesSaid : Prop := namesResolvesRow.holds Tryd.pinned (OpenSpec.ofChange namesResolvesSpec)

/-- ITS FALSE NEIGHBOUR: 'it returns false'. Refute it at one input. -/
def namesResolvesWrong : ChangeSpec := { name := "namesResolves", fn := fun _ => fun
  | [d] => { results := [.lit (.bool false)], args := [d] }
  | _ => none }
def NamesResolvesWrongFalsely : Prop := namesResolvesRow.holds Tryd.pinned (OpenSpec.ofChange namesResolvesWrong)

/-- 'winnowlaw7.NamesChecks': WHATEVER THE INPUT: true; the input reads as it did. -/
def namesChecksSpec : ChangeSpec := { name := "namesChecks", fn := fun _ => fun
  | [d] => { results := [.lit (.bool true)], args := [d] }
  | _ => none }
def namesChecksRow : OpenClaim := { program := "ytipekdhneagdbaadoor", sum := "bef7c2f9a942eacfbb00bf1c54e45dc5cd18fb4318118f25bd17f9fe8184d302", func := "winnow/winnowlaw7.NamesChecks", spec := "namesChecks", unfollowed := true, recurses := true, named := ["winnow/lex.words"], apart := false, laid := [("winnow/lex.words", laid_winnow_lex_words)] }
def NamesChecksSaid : Prop := namesChecksRow.holds Tryd.pinned (OpenSpec.ofChange namesChecksSpec)

/-- ITS FALSE NEIGHBOUR: 'it returns false'. Refute it at one input. -/
def namesChecksWrong : ChangeSpec := { name := "namesChecks", fn := fun _ => fun
  | [d] => { results := [.lit (.bool false)], args := [d] }
  | _ => none }
def NamesChecksWrongFalsely : Prop := namesChecksRow.holds Tryd.pinned (OpenSpec.ofChange namesChecksWrong)

/-- 'winnowlaw7.NamesLaid': WHATEVER THE INPUT: true; the input reads as it did. -/
def namesLaidSpec : ChangeSpec := { name := "namesLaid", fn := fun _ => fun
  | [d1, d2] => { results := [.lit (.bool true)], args := [d1, d2] }
  | _ => none }
def namesLaidRow : OpenClaim := { program := "ytipekdhneagdbaadoor", sum := "bef7c2f9a942eacfbb00bf1c54e45dc5cd18fb4318118f25bd17f9fe8184d302", func := "winnow/winnowlaw7.NamesLaid", spec := "namesLaid", unfollowed := true, recurses := true, named := ["winnow/lex.words"], apart := false, laid := [("winnow/lex.words", laid_winnow_lex_words)] }
def NamesLaidSaid : Prop := namesLaidRow.holds Tryd.pinned (OpenSpec.ofChange namesLaidSpec)

/-- ITS FALSE NEIGHBOUR: 'it returns false'. Refute it at one input. -/
def namesLaidWrong : ChangeSpec := { name := "namesLaid", fn := fun _ => fun
  | [d1, d2] => { results := [.lit (.bool false)], args := [d1, d2] }
  | _ => none }
def NamesLaidWrongFalsely : Prop := namesLaidRow.holds Tryd.pinned (OpenSpec.ofChange namesLaidWrong)

/-- 'winnowlaw7.NamesMany': WHATEVER THE INPUT: true; the input reads as it did. -/
def namesManySpec : ChangeSpec := { name := "namesMany", fn := fun _ => fun
  | [d1, d2, d3, d4] => { results := [.lit (.bool true)], args := [d1, d2, d3, d4] }
  | _ => none }
def namesManyRow : OpenClaim := { program := "ytipekdhneagdbaadoor", sum := "bef7c2f9a942eacfbb00bf1c54e45dc5cd18fb4318118f25bd17f9fe8184d302", func := "winnow/winnowlaw7.NamesMany", spec := "namesMany", unfollowed := true, recurses := true, named := ["winnow/lex.words"], apart := false, laid := [("winnow/lex.words", laid_winnow_lex_words)] }
def NamesManySaid : Prop := namesManyRow.holds Tryd.pinned (OpenSpec.ofChange namesManySpec)

/-- ITS FALSE NEIGHBOUR: 'it returns false'. Refute it at one input. -/
def namesManyWrong : ChangeSpec := { name := "namesMany", fn := fun _ => fun
  | [d1, d2, d3, d4] => { results := [.lit (.bool false)], args := [d1, d2, d3, d4] }
  | _ => none }
def NamesManyWrongFalsely : Prop := namesManyRow.holds Tryd.pinned (OpenSpec.ofChange namesManyWrong)

/-- 'winnowlaw7.NamesLarge': WHATEVER THE INPUT: true; the input reads as it did. -/
def namesLargeSpec : ChangeSpec := { name := "namesLarge", fn := fun _ => fun
  | [d1, d2] => { results := [.lit (.bool true)], args := [d1, d2] }
  | _ => none }
def namesLargeRow : OpenClaim := { program := "ytipekdhneagdbaadoor", sum := "bef7c2f9a942eacfbb00bf1c54e45dc5cd18fb4318118f25bd17f9fe8184d302", func := "winnow/winnowlaw7.NamesLarge", spec := "namesLarge", unfollowed := true, recurses := true, named := ["winnow/lex.words"], apart := false, laid := [("winnow/lex.words", laid_winnow_lex_words)] }
def NamesLargeSaid : Prop := namesLargeRow.holds Tryd.pinned (OpenSpec.ofChange namesLargeSpec)

/-- ITS FALSE NEIGHBOUR: 'it returns false'. Refute it at one input. -/
def namesLargeWrong : ChangeSpec := { name := "namesLarge", fn := fun _ => fun
  | [d1, d2] => { results := [.lit (.bool false)], args := [d1, d2] }
  | _ => none }
def NamesLargeWrongFalsely : Prop := namesLargeRow.holds Tryd.pinned (OpenSpec.ofChange namesLargeWrong)

/-- 'winnowlaw7.NamesRenamed': WHATEVER THE INPUT: true; the input reads as it did. -/
def namesRenamedSpec : ChangeSpec := { name := "namesRenamed", fn := fun _ => fun
  | [d1, d2] => { results := [.lit (.bool true)], args := [d1, d2] }
  | _ => none }
def namesRenamedRow : OpenClaim := { program := "ytipekdhneagdbaadoor", sum := "bef7c2f9a942eacfbb00bf1c54e45dc5cd18fb4318118f25bd17f9fe8184d302", func := "winnow/winnowlaw7.NamesRenamed", spec := "namesRenamed", unfollowed := true, recurses := true, named := ["winnow/lex.words"], apart := false, laid := [("winnow/lex.words", laid_winnow_lex_words)] }
def NamesRenamedSaid : Prop := namesRenamedRow.holds Tryd.pinned (OpenSpec.ofChange namesRenamedSpec)

/-- ITS FALSE NEIGHBOUR: 'it returns false'. Refute it at one input. -/
def namesRenamedWrong : ChangeSpec := { name := "namesRenamed", fn := fun _ => fun
  | [d1, d2] => { results := [.lit (.bool false)], args := [d1, d2] }
  | _ => none }
def NamesRenamedWrongFalsely : Prop := namesRenamedRow.holds Tryd.pinned (OpenSpec.ofChange namesRenamedWrong)

/-- 'winnowlaw7.NamesTold': WHATEVER THE INPUT: true; the input reads as it did. -/
def namesToldSpec : ChangeSpec := { name := "namesTold", fn := fun _ => fun
  | [d1, d2, d3] => { results := [.lit (.bool true)], args := [d1, d2, d3] }
  | _ => none }
def namesToldRow : OpenClaim := { program := "ytipekdhneagdbaadoor", sum := "bef7c2f9a942eacfbb00bf1c54e45dc5cd18fb4318118f25bd17f9fe8184d302", func := "winnow/winnowlaw7.NamesTold", spec := "namesTold", unfollowed := true, recurses := true, named := ["winnow/lex.words"], apart := false, laid := [("winnow/lex.words", laid_winnow_lex_words)] }
def NamesToldSaid : Prop := namesToldRow.holds Tryd.pinned (OpenSpec.ofChange namesToldSpec)

/-- ITS FALSE NEIGHBOUR: 'it returns false'. Refute it at one input. -/
def namesToldWrong : ChangeSpec := { name := "namesTold", fn := fun _ => fun
  | [d1, d2, d3] => { results := [.lit (.bool false)], args := [d1, d2, d3] }
  | _ => none }
def NamesToldWrongFalsely : Prop := namesToldRow.holds Tryd.pinned (OpenSpec.ofChange namesToldWrong)

/-- 'winnowlaw7.NamesOwn': WHATEVER THE INPUT: true; the input reads as it did. -/
def namesOwnSpec : ChangeSpec := { name := "namesOwn", fn := fun _ => fun
  | [d] => { results := [.lit (.bool true)], args := [d] }
  | _ => none }
def namesOwnRow : OpenClaim := { program := "ytipekdhneagdbaadoor", sum := "bef7c2f9a942eacfbb00bf1c54e45dc5cd18fb4318118f25bd17f9fe8184d302", func := "winnow/winnowlaw7.NamesOwn", spec := "namesOwn", unfollowed := true, recurses := true, named := ["winnow/lex.words"], apart := false, laid := [("winnow/lex.words", laid_winnow_lex_words)] }
def NamesOwnSaid : Prop := namesOwnRow.holds Tryd.pinned (OpenSpec.ofChange namesOwnSpec)

/-- ITS FALSE NEIGHBOUR: 'it returns false'. Refute it at one input. -/
def namesOwnWrong : ChangeSpec := { name := "namesOwn", fn := fun _ => fun
  | [d] => { results := [.lit (.bool false)], args := [d] }
  | _ => none }
def NamesOwnWrongFalsely : Prop := namesOwnRow.holds Tryd.pinned (OpenSpec.ofChange namesOwnWrong)

/-- 'winnowlaw10.CostGrows': WHATEVER THE INPUT: true; the input reads as it did. -/
def costGrowsSpec : ChangeSpec := { name := "costGrows", fn := fun _ => fun
  | [d1, d2, d3] => { results := [.lit (.bool true)], args := [d1, d2, d3] }
  | _ => none }
def costGrowsRow : OpenClaim := { program := "ytipekdhneagdbaadoor", sum := "bef7c2f9a942eacfbb00bf1c54e45dc5cd18fb4318118f25bd17f9fe8184d302", func := "winnow/winnowlaw10.CostGrows", spec := "costGrows", unfollowed := true, recurses := true, named := ["winnow/lex.words"], apart := false, laid := [("winnow/lex.words", laid_winnow_lex_words)] }
def CostGrowsSaid : Prop := costGrowsRow.holds Tryd.pinned (OpenSpec.ofChange costGrowsSpec)

/-- ITS FALSE NEIGHBOUR: 'it returns false'. Refute it at one input. -/
def costGrowsWrong : ChangeSpec := { name := "costGrows", fn := fun _ => fun
  | [d1, d2, d3] => { results := [.lit (.bool false)], args := [d1, d2, d3] }
  | _ => none }
def CostGrowsWrongFalsely : Prop := costGrowsRow.holds Tryd.pinned (OpenSpec.ofChange costGrowsWrong)

/-- 'winnowlaw10.CostOwn': WHATEVER THE INPUT: true; the input reads as it did. -/
def costOwnSpec : ChangeSpec := { name := "costOwn", fn := fun _ => fun
  | [d1, d2] => { results := [.lit (.bool true)], args := [d1, d2] }
  | _ => none }
def costOwnRow : OpenClaim := { program := "ytipekdhneagdbaadoor", sum := "bef7c2f9a942eacfbb00bf1c54e45dc5cd18fb4318118f25bd17f9fe8184d302", func := "winnow/winnowlaw10.CostOwn", spec := "costOwn", unfollowed := true, recurses := true, named := ["winnow/lex.words"], apart := false, laid := [("winnow/lex.words", laid_winnow_lex_words)] }
def CostOwnSaid : Prop := costOwnRow.holds Tryd.pinned (OpenSpec.ofChange costOwnSpec)

/-- ITS FALSE NEIGHBOUR: 'it returns false'. Refute it at one input. -/
def costOwnWrong : ChangeSpec := { name := "costOwn", fn := fun _ => fun
  | [d1, d2] => { results := [.lit (.bool false)], args := [d1, d2] }
  | _ => none }
def CostOwnWrongFalsely : Prop := costOwnRow.holds Tryd.pinned (OpenSpec.ofChange costOwnWrong)

/- THE SECOND FORM. 'bulk': how many values and letters a reading holds, each counted each time it is reached (what is shared counts as often as it is met; a slice's spare places count too). A statement '..UptoSaid' is the law's where the arguments, and the package variables that the reading takes, are together of bulk at most 1048576: NARROWER than '..Said'. Prove '..Said' where nothing that the law and all that it calls make is longer than what came in: it says more and counts as full. Else prove '..UptoSaid'. A law counts once. -/
mutual
def uptoBulk {H : Type} : DataW H → Nat
  | .lit (.string bytes) => bytes.length + 1
  | .lit _ => 1
  | .nil => 1
  | .ptr d => uptoBulk d + 1
  | .slice elems spare => uptoBulkAll elems + uptoBulkAll spare + 1
  | .agg parts => uptoBulkAll parts + 1
  | .iface _ d => uptoBulk d + 1
  | .map entries => uptoBulkEntries entries + 1
  | .held _ => 1
def uptoBulkAll {H : Type} : List (DataW H) → Nat
  | [] => 0
  | d :: r => uptoBulk d + uptoBulkAll r
def uptoBulkEntries {H : Type} : List (Lit × DataW H) → Nat
  | [] => 0
  | x :: r => uptoBulkEntry x + uptoBulkEntries r
def uptoBulkEntry {H : Type} : Lit × DataW H → Nat
  | (.string bytes, d) => bytes.length + uptoBulk d + 1
  | (_, d) => uptoBulk d + 1
 end
def uptoSmall : (H : Type) → List (DataW H) → Bool := fun _ ds => decide (uptoBulkAll ds ≤ 1048576)
def OpenSpec.upto (s : _root_.Go.ChangeSpec) : _root_.Go.OpenSpec := { _root_.Go.OpenSpec.ofChange s with cond := some uptoSmall }

/-- 'winnowlaw7.NamesResolves', WHERE WHAT IT READS IS OF BULK AT MOST 1048576: true; the input reads as it did. -/
def namesResolvesUptoRow : OpenClaim := { program := "ytipekdhneagdbaadoor", sum := "bef7c2f9a942eacfbb00bf1c54e45dc5cd18fb4318118f25bd17f9fe8184d302", func := "winnow/winnowlaw7.NamesResolves", spec := "namesResolves", unfollowed := true, recurses := true, named := ["winnow/lex.words"], apart := false, laid := [("winnow/lex.words", laid_winnow_lex_words)], narrowed := true }
def NamesResolvesUptoSaid : Prop := namesResolvesUptoRow.holds Tryd.pinned (OpenSpec.upto namesResolvesSpec)

/-- 'winnowlaw7.NamesChecks', WHERE WHAT IT READS IS OF BULK AT MOST 1048576: true; the input reads as it did. -/
def namesChecksUptoRow : OpenClaim := { program := "ytipekdhneagdbaadoor", sum := "bef7c2f9a942eacfbb00bf1c54e45dc5cd18fb4318118f25bd17f9fe8184d302", func := "winnow/winnowlaw7.NamesChecks", spec := "namesChecks", unfollowed := true, recurses := true, named := ["winnow/lex.words"], apart := false, laid := [("winnow/lex.words", laid_winnow_lex_words)], narrowed := true }
def NamesChecksUptoSaid : Prop := namesChecksUptoRow.holds Tryd.pinned (OpenSpec.upto namesChecksSpec)

/-- 'winnowlaw7.NamesLaid', WHERE WHAT IT READS IS OF BULK AT MOST 1048576: true; the input reads as it did. -/
def namesLaidUptoRow : OpenClaim := { program := "ytipekdhneagdbaadoor", sum := "bef7c2f9a942eacfbb00bf1c54e45dc5cd18fb4318118f25bd17f9fe8184d302", func := "winnow/winnowlaw7.NamesLaid", spec := "namesLaid", unfollowed := true, recurses := true, named := ["winnow/lex.words"], apart := false, laid := [("winnow/lex.words", laid_winnow_lex_words)], narrowed := true }
def NamesLaidUptoSaid : Prop := namesLaidUptoRow.holds Tryd.pinned (OpenSpec.upto namesLaidSpec)

/-- 'winnowlaw7.NamesMany', WHERE WHAT IT READS IS OF BULK AT MOST 1048576: true; the input reads as it did. -/
def namesManyUptoRow : OpenClaim := { program := "ytipekdhneagdbaadoor", sum := "bef7c2f9a942eacfbb00bf1c54e45dc5cd18fb4318118f25bd17f9fe8184d302", func := "winnow/winnowlaw7.NamesMany", spec := "namesMany", unfollowed := true, recurses := true, named := ["winnow/lex.words"], apart := false, laid := [("winnow/lex.words", laid_winnow_lex_words)], narrowed := true }
def NamesManyUptoSaid : Prop := namesManyUptoRow.holds Tryd.pinned (OpenSpec.upto namesManySpec)

/-- 'winnowlaw7.NamesLarge', WHERE WHAT IT READS IS OF BULK AT MOST 1048576: true; the input reads as it did. -/
def namesLargeUptoRow : OpenClaim := { program := "ytipekdhneagdbaadoor", sum := "bef7c2f9a942eacfbb00bf1c54e45dc5cd18fb4318118f25bd17f9fe8184d302", func := "winnow/winnowlaw7.NamesLarge", spec := "namesLarge", unfollowed := true, recurses := true, named := ["winnow/lex.words"], apart := false, laid := [("winnow/lex.words", laid_winnow_lex_words)], narrowed := true }
def NamesLargeUptoSaid : Prop := namesLargeUptoRow.holds Tryd.pinned (OpenSpec.upto namesLargeSpec)

/-- 'winnowlaw7.NamesRenamed', WHERE WHAT IT READS IS OF BULK AT MOST 1048576: true; the input reads as it did. -/
def namesRenamedUptoRow : OpenClaim := { program := "ytipekdhneagdbaadoor", sum := "bef7c2f9a942eacfbb00bf1c54e45dc5cd18fb4318118f25bd17f9fe8184d302", func := "winnow/winnowlaw7.NamesRenamed", spec := "namesRenamed", unfollowed := true, recurses := true, named := ["winnow/lex.words"], apart := false, laid := [("winnow/lex.words", laid_winnow_lex_words)], narrowed := true }
def NamesRenamedUptoSaid : Prop := namesRenamedUptoRow.holds Tryd.pinned (OpenSpec.upto namesRenamedSpec)

/-- 'winnowlaw7.NamesTold', WHERE WHAT IT READS IS OF BULK AT MOST 1048576: true; the input reads as it did. -/
def namesToldUptoRow : OpenClaim := { program := "ytipekdhneagdbaadoor", sum := "bef7c2f9a942eacfbb00bf1c54e45dc5cd18fb4318118f25bd17f9fe8184d302", func := "winnow/winnowlaw7.NamesTold", spec := "namesTold", unfollowed := true, recurses := true, named := ["winnow/lex.words"], apart := false, laid := [("winnow/lex.words", laid_winnow_lex_words)], narrowed := true }
def NamesToldUptoSaid : Prop := namesToldUptoRow.holds Tryd.pinned (OpenSpec.upto namesToldSpec)

/-- 'winnowlaw7.NamesOwn', WHERE WHAT IT READS IS OF BULK AT MOST 1048576: true; the input reads as it did. -/
def namesOwnUptoRow : OpenClaim := { program := "ytipekdhneagdbaadoor", sum := "bef7c2f9a942eacfbb00bf1c54e45dc5cd18fb4318118f25bd17f9fe8184d302", func := "winnow/winnowlaw7.NamesOwn", spec := "namesOwn", unfollowed := true, recurses := true, named := ["winnow/lex.words"], apart := false, laid := [("winnow/lex.words", laid_winnow_lex_words)], narrowed := true }
def NamesOwnUptoSaid : Prop := namesOwnUptoRow.holds Tryd.pinned (OpenSpec.upto namesOwnSpec)

/-- 'winnowlaw10.CostGrows', WHERE WHAT IT READS IS OF BULK AT MOST 1048576: true; the input reads as it did. -/
def costGrowsUptoRow : OpenClaim := { program := "ytipekdhneagdbaadoor", sum := "bef7c2f9a942eacfbb00bf1c54e45dc5cd18fb4318118f25bd17f9fe8184d302", func := "winnow/winnowlaw10.CostGrows", spec := "costGrows", unfollowed := true, recurses := true, named := ["winnow/lex.words"], apart := false, laid := [("winnow/lex.words", laid_winnow_lex_words)], narrowed := true }
def CostGrowsUptoSaid : Prop := costGrowsUptoRow.holds Tryd.pinned (OpenSpec.upto costGrowsSpec)

/-- 'winnowlaw10.CostOwn', WHERE WHAT IT READS IS OF BULK AT MOST 1048576: true; the input reads as it did. -/
def costOwnUptoRow : OpenClaim := { program := "ytipekdhneagdbaadoor", sum := "bef7c2f9a942eacfbb00bf1c54e45dc5cd18fb4318118f25bd17f9fe8184d302", func := "winnow/winnowlaw10.CostOwn", spec := "costOwn", unfollowed := true, recurses := true, named := ["winnow/lex.words"], apart := false, laid := [("winnow/lex.words", laid_winnow_lex_words)], narrowed := true }
def CostOwnUptoSaid : Prop := costOwnUptoRow.holds Tryd.pinned (OpenSpec.upto costOwnSpec)

end Rows
end Go.Proofs.YtipekdhneagdbaaDoor
