/-
  No cell of these rows narrows 'for every input' (looked for: loops, veiled, ifaces, maps, wideKeys, modest, calm, conditions, laid).
  DERIVED. THE GIVEN ROWS OF THIS SEAT. 3 by the template 'for every input the law returns true; each argument reads behind the call as it read before'; 0 by the template 'total and deterministic' (their statements: YtfbheeghkccdaaaTotals.lean).
  GIVEN WITH THE SEED: the statements are not yours to turn. If you find one false, say at which input.
  Laid BY PROGRAM, IN A SANDBOX (cutbox-rows.mjs): the forced cells as the released guide's own fill.sh prints them over the translation b394625e74fbe6f5… (all of the seat's roots in one cut). By AI agents, Wed Nov 11 2026. No macro, syntax, notation, axiom, sorry.
-/
import Derived.Test.YtfbheeghkccdaaaChecked
import GoSem.Claim
import GoSem.ClaimJoined
import GoSem.ClaimMapViews
import Derived.JoinedTies
import Derived.KernelRfl
namespace Go.Proofs.Ytfbheeghkccdaaa
/- THE CELL 'sum', in the pinned program and in every row, IS THE sha256 OF THE DUMP (.gsa) THAT YtfbheeghkccdaaaProg.lean LOADS. Nothing in Lean hashes anything: it is a label: what it is worth is what the hold of that sum in a sandbox is worth. -/
noncomputable def Try.pinned : Pinned := { name := "ytfbheeghkccdaaa", sum := "b394625e74fbe6f51f9cc8a926cd50a4bec531f0a6a130ce8a5e29fa9dd31259", checked := Try.checked }
namespace Rows
def none {H : Type} : Left H := { results := [], args := [] }

/-- 'thunkmilllaw11.GroupsNames': WHATEVER THE INPUT: true; the input reads as it did. -/
def groupsNamesSpec : ChangeSpec := { name := "groupsNames", fn := fun _ => fun
  | [] => { results := [.lit (.bool true)], args := [] }
  | _ => none }
def groupsNamesRow : OpenClaim := { program := "ytfbheeghkccdaaa", sum := "b394625e74fbe6f51f9cc8a926cd50a4bec531f0a6a130ce8a5e29fa9dd31259", func := "thunkmill/thunkmilllaw11.GroupsNames", spec := "groupsNames", unfollowed := true, recurses := true, apart := false }
def GroupsNamesSaid : Prop := groupsNamesRow.holds Try.pinned (OpenSpec.ofChange groupsNamesSpec)

/-- ITS FALSE NEIGHBOUR: 'it returns false'. Refute it at one input. -/
def groupsNamesWrong : ChangeSpec := { name := "groupsNames", fn := fun _ => fun
  | [] => { results := [.lit (.bool false)], args := [] }
  | _ => none }
def GroupsNamesWrongFalsely : Prop := groupsNamesRow.holds Try.pinned (OpenSpec.ofChange groupsNamesWrong)

/-- 'thunkmilllaw11.GroupsSound': WHATEVER THE INPUT: true; the input reads as it did. -/
def groupsSoundSpec : ChangeSpec := { name := "groupsSound", fn := fun _ => fun
  | [d1, d2] => { results := [.lit (.bool true)], args := [d1, d2] }
  | _ => none }
def groupsSoundRow : OpenClaim := { program := "ytfbheeghkccdaaa", sum := "b394625e74fbe6f51f9cc8a926cd50a4bec531f0a6a130ce8a5e29fa9dd31259", func := "thunkmill/thunkmilllaw11.GroupsSound", spec := "groupsSound", unfollowed := true, recurses := true, apart := false }
def GroupsSoundSaid : Prop := groupsSoundRow.holds Try.pinned (OpenSpec.ofChange groupsSoundSpec)

/-- ITS FALSE NEIGHBOUR: 'it returns false'. Refute it at one input. -/
def groupsSoundWrong : ChangeSpec := { name := "groupsSound", fn := fun _ => fun
  | [d1, d2] => { results := [.lit (.bool false)], args := [d1, d2] }
  | _ => none }
def GroupsSoundWrongFalsely : Prop := groupsSoundRow.holds Try.pinned (OpenSpec.ofChange groupsSoundWrong)

/-- 'thunkmilllaw11.GroupsCalls': WHATEVER THE INPUT: true; the input reads as it did. -/
def groupsCallsSpec : ChangeSpec := { name := "groupsCalls", fn := fun _ => fun
  | [d1, d2, d3] => { results := [.lit (.bool true)], args := [d1, d2, d3] }
  | _ => none }
def groupsCallsRow : OpenClaim := { program := "ytfbheeghkccdaaa", sum := "b394625e74fbe6f51f9cc8a926cd50a4bec531f0a6a130ce8a5e29fa9dd31259", func := "thunkmill/thunkmilllaw11.GroupsCalls", spec := "groupsCalls", unfollowed := true, recurses := true, apart := false }
def GroupsCallsSaid : Prop := groupsCallsRow.holds Try.pinned (OpenSpec.ofChange groupsCallsSpec)

/-- ITS FALSE NEIGHBOUR: 'it returns false'. Refute it at one input. -/
def groupsCallsWrong : ChangeSpec := { name := "groupsCalls", fn := fun _ => fun
  | [d1, d2, d3] => { results := [.lit (.bool false)], args := [d1, d2, d3] }
  | _ => none }
def GroupsCallsWrongFalsely : Prop := groupsCallsRow.holds Try.pinned (OpenSpec.ofChange groupsCallsWrong)

/- THE SECOND FORM. 'bulk': how many values and letters a reading holds, each counted each time it is reached (what is shared counts as often as it is met; a slice's spare places count too). A statement '..UptoSaid' is the law's where the arguments, and the package variables that the reading takes, are together of bulk at most 1048576: NARROWER than '..Said'. Prove '..Said' where nothing that the law and all that it calls make is longer than what came in: it says more and counts as full. Else prove '..UptoSaid'. A law counts once. -/
mutual
def uptoBulk {H : Type} : DataW H → Nat
  | .lit (.string bytes) => bytes.length + 1
  | .lit _ => 1
  | .nil => 1
  | .ptr d => uptoBulk d + 1
  | .slice elems spare => uptoBulkAll elems + uptoBulkAll spare + 1
  | .agg parts => uptoBulkAll parts + 1
  | .iface _ d => uptoBulk d + 1
  | .map entries => uptoBulkEntries entries + 1
  | .held _ => 1
def uptoBulkAll {H : Type} : List (DataW H) → Nat
  | [] => 0
  | d :: r => uptoBulk d + uptoBulkAll r
def uptoBulkEntries {H : Type} : List (Lit × DataW H) → Nat
  | [] => 0
  | x :: r => uptoBulkEntry x + uptoBulkEntries r
def uptoBulkEntry {H : Type} : Lit × DataW H → Nat
  | (.string bytes, d) => bytes.length + uptoBulk d + 1
  | (_, d) => uptoBulk d + 1
 end
def uptoSmall : (H : Type) → List (DataW H) → Bool := fun _ ds => decide (uptoBulkAll ds ≤ 1048576)
def OpenSpec.upto (s : _root_.Go.ChangeSpec) : _root_.Go.OpenSpec := { _root_.Go.OpenSpec.ofChange s with cond := some uptoSmall }

/-- 'thunkmilllaw11.GroupsNames', WHERE WHAT IT READS IS OF BULK AT MOST 1048576: true; the input reads as it did. -/
def groupsNamesUptoRow : OpenClaim := { program := "ytfbheeghkccdaaa", sum := "b394625e74fbe6f51f9cc8a926cd50a4bec531f0a6a130ce8a5e29fa9dd31259", func := "thunkmill/thunkmilllaw11.GroupsNames", spec := "groupsNames", unfollowed := true, recurses := true, apart := false, narrowed := true }
def GroupsNamesUptoSaid : Prop := groupsNamesUptoRow.holds Try.pinned (OpenSpec.upto groupsNamesSpec)

/-- 'thunkmilllaw11.GroupsSound', WHERE WHAT IT READS IS OF BULK AT MOST 1048576: true; the input reads as it did. -/
def groupsSoundUptoRow : OpenClaim := { program := "ytfbheeghkccdaaa", sum := "b394625e74fbe6f51f9cc8a926cd50a4bec531f0a6a130ce8a5e29fa9dd31259", func := "thunkmill/thunkmilllaw11.GroupsSound", spec := "groupsSound", unfollowed := true, recurses := true, apart := false, narrowed := true }
def GroupsSoundUptoSaid : Prop := groupsSoundUptoRow.holds Try.pinned (OpenSpec.upto groupsSoundSpec)

/-- 'thunkmilllaw11.GroupsCalls', WHERE WHAT IT READS IS OF BULK AT MOST 1048576: true; the input reads as it did. -/
def groupsCallsUptoRow : OpenClaim := { program := "ytfbheeghkccdaaa", sum := "b394625e74fbe6f51f9cc8a926cd50a4bec531f0a6a130ce8a5e29fa9dd31259", func := "thunkmill/thunkmilllaw11.GroupsCalls", spec := "groupsCalls", unfollowed := true, recurses := true, apart := false, narrowed := true }
def GroupsCallsUptoSaid : Prop := groupsCallsUptoRow.holds Try.pinned (OpenSpec.upto groupsCallsSpec)

end Rows
end Go.Proofs.Ytfbheeghkccdaaa
