/-
  No cell of these rows narrows 'for every input' (looked for: loops, veiled, ifaces, maps, wideKeys, modest, calm, conditions, laid).
  DERIVED. THE GIVEN ROWS OF THIS SEAT. 3 by the template 'for every input the law returns true; each argument reads behind the call as it read before'; 0 by the template 'total and deterministic' (their statements: YtlphbnnbhogohaaTotals.lean).
  GIVEN WITH THE SEED: the statements are not yours to turn. If you find one false, say at which input.
  Laid BY PROGRAM, IN A SANDBOX (cutbox-rows.mjs): the forced cells as the released guide's own fill.sh prints them over the translation 16c2161b931da28b… (all of the seat's roots in one cut). By AI agents, Wed Nov 11 2026. No macro, syntax, notation, axiom, sorry.
-/
import Derived.Test.YtlphbnnbhogohaaChecked
import GoSem.Claim
import GoSem.ClaimJoined
import GoSem.ClaimMapViews
import Derived.JoinedTies
import Derived.KernelRfl
namespace Go.Proofs.Ytlphbnnbhogohaa
/- THE CELL 'sum', in the pinned program and in every row, IS THE sha256 OF THE DUMP (.gsa) THAT YtlphbnnbhogohaaProg.lean LOADS. Nothing in Lean hashes anything: it is a label: what it is worth is what the hold of that sum in a sandbox is worth. -/
noncomputable def Try.pinned : Pinned := { name := "ytlphbnnbhogohaa", sum := "16c2161b931da28b8f387b9bf98c3467aabb3cf0efa9c43fe310175be1d6f361", checked := Try.checked }
namespace Rows
def none {H : Type} : Left H := { results := [], args := [] }

/-- 'winnowlaw8.TypedNames': WHATEVER THE INPUT: true; the input reads as it did. -/
def typedNamesSpec : ChangeSpec := { name := "typedNames", fn := fun _ => fun
  | [] => { results := [.lit (.bool true)], args := [] }
  | _ => none }
def typedNamesRow : OpenClaim := { program := "ytlphbnnbhogohaa", sum := "16c2161b931da28b8f387b9bf98c3467aabb3cf0efa9c43fe310175be1d6f361", func := "winnow/winnowlaw8.TypedNames", spec := "typedNames", apart := false }
def TypedNamesSaid : Prop := typedNamesRow.holds Try.pinned (OpenSpec.ofChange typedNamesSpec)

/-- ITS FALSE NEIGHBOUR: 'it returns false'. Refute it at one input. -/
def typedNamesWrong : ChangeSpec := { name := "typedNames", fn := fun _ => fun
  | [] => { results := [.lit (.bool false)], args := [] }
  | _ => none }
def TypedNamesWrongFalsely : Prop := typedNamesRow.holds Try.pinned (OpenSpec.ofChange typedNamesWrong)

/-- 'winnowlaw9.RoomNames': WHATEVER THE INPUT: true; the input reads as it did. -/
def roomNamesSpec : ChangeSpec := { name := "roomNames", fn := fun _ => fun
  | [] => { results := [.lit (.bool true)], args := [] }
  | _ => none }
def roomNamesRow : OpenClaim := { program := "ytlphbnnbhogohaa", sum := "16c2161b931da28b8f387b9bf98c3467aabb3cf0efa9c43fe310175be1d6f361", func := "winnow/winnowlaw9.RoomNames", spec := "roomNames", apart := false }
def RoomNamesSaid : Prop := roomNamesRow.holds Try.pinned (OpenSpec.ofChange roomNamesSpec)

/-- ITS FALSE NEIGHBOUR: 'it returns false'. Refute it at one input. -/
def roomNamesWrong : ChangeSpec := { name := "roomNames", fn := fun _ => fun
  | [] => { results := [.lit (.bool false)], args := [] }
  | _ => none }
def RoomNamesWrongFalsely : Prop := roomNamesRow.holds Try.pinned (OpenSpec.ofChange roomNamesWrong)

/-- 'winnowlaw12.RuleNames': WHATEVER THE INPUT: true; the input reads as it did. -/
def ruleNamesSpec : ChangeSpec := { name := "ruleNames", fn := fun _ => fun
  | [] => { results := [.lit (.bool true)], args := [] }
  | _ => none }
def ruleNamesRow : OpenClaim := { program := "ytlphbnnbhogohaa", sum := "16c2161b931da28b8f387b9bf98c3467aabb3cf0efa9c43fe310175be1d6f361", func := "winnow/winnowlaw12.RuleNames", spec := "ruleNames", apart := false }
def RuleNamesSaid : Prop := ruleNamesRow.holds Try.pinned (OpenSpec.ofChange ruleNamesSpec)

/-- ITS FALSE NEIGHBOUR: 'it returns false'. Refute it at one input. -/
def ruleNamesWrong : ChangeSpec := { name := "ruleNames", fn := fun _ => fun
  | [] => { results := [.lit (.bool false)], args := [] }
  | _ => none }
def RuleNamesWrongFalsely : Prop := ruleNamesRow.holds Try.pinned (OpenSpec.ofChange ruleNamesWrong)

/- THE SECOND FORM. 'bulk': how many values and letters a reading holds, each counted each time it is reached (what is shared counts as often as it is met; a slice's spare places count too). A statement '..UptoSaid' is the law's where the arguments, and the package variables that the reading takes, are together of bulk at most 1048576: NARROWER than '..Said'. Prove '..Said' where nothing that the law and all that it calls make is longer than what came in: it says more and counts as full. Else prove '..UptoSaid'. A law counts once. -/
mutual
def uptoBulk {H : Type} : DataW H → Nat
  | .lit (.string bytes) => bytes.length + 1
  | .lit _ => 1
  | .nil => 1
  | .ptr d => uptoBulk d + 1
  | .slice elems spare => uptoBulkAll elems + uptoBulkAll spare + 1
  | .agg parts => uptoBulkAll parts + 1
  | .iface _ d => uptoBulk d + 1
  | .map entries => uptoBulkEntries entries + 1
  | .held _ => 1
def uptoBulkAll {H : Type} : List (DataW H) → Nat
  | [] => 0
  | d :: r => uptoBulk d + uptoBulkAll r
def uptoBulkEntries {H : Type} : List (Lit × DataW H) → Nat
  | [] => 0
  | x :: r => uptoBulkEntry x + uptoBulkEntries r
def uptoBulkEntry {H : Type} : Lit × DataW H → Nat
  | (.string bytes, d) => bytes.length + uptoBulk d + 1
  | (_, d) => uptoBulk d + 1
 end
def uptoSmall : (H : Type) → List (DataW H) → Bool := fun _ ds => decide (uptoBulkAll ds ≤ 1048576)
def OpenSpec.upto (s : _root_.Go.ChangeSpec) : _root_.Go.OpenSpec := { _root_.Go.OpenSpec.ofChange s with cond := some uptoSmall }

/-- 'winnowlaw8.TypedNames', WHERE WHAT IT READS IS OF BULK AT MOST 1048576: true; the input reads as it did. -/
def typedNamesUptoRow : OpenClaim := { program := "ytlphbnnbhogohaa", sum := "16c2161b931da28b8f387b9bf98c3467aabb3cf0efa9c43fe310175be1d6f361", func := "winnow/winnowlaw8.TypedNames", spec := "typedNames", apart := false, narrowed := true }
def TypedNamesUptoSaid : Prop := typedNamesUptoRow.holds Try.pinned (OpenSpec.upto typedNamesSpec)

/-- 'winnowlaw9.RoomNames', WHERE WHAT IT READS IS OF BULK AT MOST 1048576: true; the input reads as it did. -/
def roomNamesUptoRow : OpenClaim := { program := "ytlphbnnbhogohaa", sum := "16c2161b931da28b8f387b9bf98c3467aabb3cf0efa9c43fe310175be1d6f361", func := "winnow/winnowlaw9.RoomNames", spec := "roomNames", apart := false, narrowed := true }
def RoomNamesUptoSaid : Prop := roomNamesUptoRow.holds Try.pinned (OpenSpec.upto roomNamesSpec)

/-- 'winnowlaw12.RuleNames', WHERE WHAT IT READS IS OF BULK AT MOST 1048576: true; the input reads as it did. -/
def ruleNamesUptoRow : OpenClaim := { program := "ytlphbnnbhogohaa", sum := "16c2161b931da28b8f387b9bf98c3467aabb3cf0efa9c43fe310175be1d6f361", func := "winnow/winnowlaw12.RuleNames", spec := "ruleNames", apart := false, narrowed := true }
def RuleNamesUptoSaid : Prop := ruleNamesUptoRow.holds Try.pinned (OpenSpec.upto ruleNamesSpec)

end Rows
end Go.Proofs.Ytlphbnnbhogohaa
