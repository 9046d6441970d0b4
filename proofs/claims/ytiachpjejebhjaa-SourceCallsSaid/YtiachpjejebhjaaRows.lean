/-
  No cell of these rows narrows 'for every input' (looked for: loops, veiled, ifaces, maps, wideKeys, modest, calm, conditions, laid).
  DERIVED. THE GIVEN ROWS OF THIS SEAT. 4 by the template 'for every input the law returns true; each argument reads behind the call as it read before'; 0 by the template 'total and deterministic' (their statements: YtiachpjejebhjaaTotals.lean).
  GIVEN WITH THE SEED: the statements are not yours to turn. If you find one false, say at which input.
  Laid BY PROGRAM, IN A SANDBOX (cutbox-rows.mjs): the forced cells as the released guide's own fill.sh prints them over the translation 9947c68b9fc446e2… (all of the seat's roots in one cut). By AI agents, Wed Nov 11 2026. No macro, syntax, notation, axiom, sorry.
-/
import Derived.Test.YtiachpjejebhjaaChecked
import GoSem.Claim
import GoSem.ClaimJoined
import GoSem.ClaimMapViews
import Derived.JoinedTies
import Derived.KernelRfl
namespace Go.Proofs.Ytiachpjejebhjaa
/- THE CELL 'sum', in the pinned program and in every row, IS THE sha256 OF THE DUMP (.gsa) THAT YtiachpjejebhjaaProg.lean LOADS. Nothing in Lean hashes anything: it is a label: what it is worth is what the hold of that sum in a sandbox is worth. -/
noncomputable def Try.pinned : Pinned := { name := "ytiachpjejebhjaa", sum := "9947c68b9fc446e2ba6cc3c60bed7a9f65e0e0114f8c218ce4fbbe23134e3995", checked := Try.checked }
namespace Rows
def none {H : Type} : Left H := { results := [], args := [] }

/-- 'thunkmilllaw01.SourceLines': WHATEVER THE INPUT: true; the input reads as it did. -/
def sourceLinesSpec : ChangeSpec := { name := "sourceLines", fn := fun _ => fun
  | [d] => { results := [.lit (.bool true)], args := [d] }
  | _ => none }
def sourceLinesRow : OpenClaim := { program := "ytiachpjejebhjaa", sum := "9947c68b9fc446e2ba6cc3c60bed7a9f65e0e0114f8c218ce4fbbe23134e3995", func := "thunkmill/thunkmilllaw01.SourceLines", spec := "sourceLines", inPlace := ["internal/bytealg.IndexByteString"], unfollowed := true, recurses := true, apart := false }
def SourceLinesSaid : Prop := sourceLinesRow.holds Try.pinned (OpenSpec.ofChange sourceLinesSpec)

/-- ITS FALSE NEIGHBOUR: 'it returns false'. Refute it at one input. -/
def sourceLinesWrong : ChangeSpec := { name := "sourceLines", fn := fun _ => fun
  | [d] => { results := [.lit (.bool false)], args := [d] }
  | _ => none }
def SourceLinesWrongFalsely : Prop := sourceLinesRow.holds Try.pinned (OpenSpec.ofChange sourceLinesWrong)

/-- 'thunkmilllaw01.SourceBack': WHATEVER THE INPUT: true; the input reads as it did. -/
def sourceBackSpec : ChangeSpec := { name := "sourceBack", fn := fun _ => fun
  | [d] => { results := [.lit (.bool true)], args := [d] }
  | _ => none }
def sourceBackRow : OpenClaim := { program := "ytiachpjejebhjaa", sum := "9947c68b9fc446e2ba6cc3c60bed7a9f65e0e0114f8c218ce4fbbe23134e3995", func := "thunkmill/thunkmilllaw01.SourceBack", spec := "sourceBack", inPlace := ["internal/bytealg.IndexByteString"], unfollowed := true, recurses := true, apart := false }
def SourceBackSaid : Prop := sourceBackRow.holds Try.pinned (OpenSpec.ofChange sourceBackSpec)

/-- ITS FALSE NEIGHBOUR: 'it returns false'. Refute it at one input. -/
def sourceBackWrong : ChangeSpec := { name := "sourceBack", fn := fun _ => fun
  | [d] => { results := [.lit (.bool false)], args := [d] }
  | _ => none }
def SourceBackWrongFalsely : Prop := sourceBackRow.holds Try.pinned (OpenSpec.ofChange sourceBackWrong)

/-- 'thunkmilllaw01.SourceNames': WHATEVER THE INPUT: true; the input reads as it did. -/
def sourceNamesSpec : ChangeSpec := { name := "sourceNames", fn := fun _ => fun
  | [] => { results := [.lit (.bool true)], args := [] }
  | _ => none }
def sourceNamesRow : OpenClaim := { program := "ytiachpjejebhjaa", sum := "9947c68b9fc446e2ba6cc3c60bed7a9f65e0e0114f8c218ce4fbbe23134e3995", func := "thunkmill/thunkmilllaw01.SourceNames", spec := "sourceNames", inPlace := ["internal/bytealg.IndexByteString"], unfollowed := true, recurses := true, apart := false }
def SourceNamesSaid : Prop := sourceNamesRow.holds Try.pinned (OpenSpec.ofChange sourceNamesSpec)

/-- ITS FALSE NEIGHBOUR: 'it returns false'. Refute it at one input. -/
def sourceNamesWrong : ChangeSpec := { name := "sourceNames", fn := fun _ => fun
  | [] => { results := [.lit (.bool false)], args := [] }
  | _ => none }
def SourceNamesWrongFalsely : Prop := sourceNamesRow.holds Try.pinned (OpenSpec.ofChange sourceNamesWrong)

/-- 'thunkmilllaw01.SourceCalls': WHATEVER THE INPUT: true; the input reads as it did. -/
def sourceCallsSpec : ChangeSpec := { name := "sourceCalls", fn := fun _ => fun
  | [d1, d2, d3, d4] => { results := [.lit (.bool true)], args := [d1, d2, d3, d4] }
  | _ => none }
def sourceCallsRow : OpenClaim := { program := "ytiachpjejebhjaa", sum := "9947c68b9fc446e2ba6cc3c60bed7a9f65e0e0114f8c218ce4fbbe23134e3995", func := "thunkmill/thunkmilllaw01.SourceCalls", spec := "sourceCalls", inPlace := ["internal/bytealg.IndexByteString"], unfollowed := true, recurses := true, apart := false }
def SourceCallsSaid : Prop := sourceCallsRow.holds Try.pinned (OpenSpec.ofChange sourceCallsSpec)

/-- ITS FALSE NEIGHBOUR: 'it returns false'. Refute it at one input. -/
def sourceCallsWrong : ChangeSpec := { name := "sourceCalls", fn := fun _ => fun
  | [d1, d2, d3, d4] => { results := [.lit (.bool false)], args := [d1, d2, d3, d4] }
  | _ => none }
def SourceCallsWrongFalsely : Prop := sourceCallsRow.holds Try.pinned (OpenSpec.ofChange sourceCallsWrong)

/- THE SECOND FORM. 'bulk': how many values and letters a reading holds, each counted each time it is reached (what is shared counts as often as it is met; a slice's spare places count too). A statement '..UptoSaid' is the law's where the arguments, and the package variables that the reading takes, are together of bulk at most 1048576: NARROWER than '..Said'. Prove '..Said' where nothing that the law and all that it calls make is longer than what came in: it says more and counts as full. Else prove '..UptoSaid'. A law counts once. -/
mutual
def uptoBulk {H : Type} : DataW H → Nat
  | .lit (.string bytes) => bytes.length + 1
  | .lit _ => 1
  | .nil => 1
  | .ptr d => uptoBulk d + 1
  | .slice elems spare => uptoBulkAll elems + uptoBulkAll spare + 1
  | .agg parts => uptoBulkAll parts + 1
  | .iface _ d => uptoBulk d + 1
  | .map entries => uptoBulkEntries entries + 1
  | .held _ => 1
def uptoBulkAll {H : Type} : List (DataW H) → Nat
  | [] => 0
  | d :: r => uptoBulk d + uptoBulkAll r
def uptoBulkEntries {H : Type} : List (Lit × DataW H) → Nat
  | [] => 0
  | x :: r => uptoBulkEntry x + uptoBulkEntries r
def uptoBulkEntry {H : Type} : Lit × DataW H → Nat
  | (.string bytes, d) => bytes.length + uptoBulk d + 1
  | (_, d) => uptoBulk d + 1
 end
def uptoSmall : (H : Type) → List (DataW H) → Bool := fun _ ds => decide (uptoBulkAll ds ≤ 1048576)
def OpenSpec.upto (s : _root_.Go.ChangeSpec) : _root_.Go.OpenSpec := { _root_.Go.OpenSpec.ofChange s with cond := some uptoSmall }

/-- 'thunkmilllaw01.SourceLines', WHERE WHAT IT READS IS OF BULK AT MOST 1048576: true; the input reads as it did. -/
def sourceLinesUptoRow : OpenClaim := { program := "ytiachpjejebhjaa", sum := "9947c68b9fc446e2ba6cc3c60bed7a9f65e0e0114f8c218ce4fbbe23134e3995", func := "thunkmill/thunkmilllaw01.SourceLines", spec := "sourceLines", inPlace := ["internal/bytealg.IndexByteString"], unfollowed := true, recurses := true, apart := false, narrowed := true }
def SourceLinesUptoSaid : Prop := sourceLinesUptoRow.holds Try.pinned (OpenSpec.upto sourceLinesSpec)

/-- 'thunkmilllaw01.SourceBack', WHERE WHAT IT READS IS OF BULK AT MOST 1048576: true; the input reads as it did. -/
def sourceBackUptoRow : OpenClaim := { program := "ytiachpjejebhjaa", sum := "9947c68b9fc446e2ba6cc3c60bed7a9f65e0e0114f8c218ce4fbbe23134e3995", func := "thunkmill/thunkmilllaw01.SourceBack", spec := "sourceBack", inPlace := ["internal/bytealg.IndexByteString"], unfollowed := true, recurses := true, apart := false, narrowed := true }
def SourceBackUptoSaid : Prop := sourceBackUptoRow.holds Try.pinned (OpenSpec.upto sourceBackSpec)

/-- 'thunkmilllaw01.SourceNames', WHERE WHAT IT READS IS OF BULK AT MOST 1048576: true; the input reads as it did. -/
def sourceNamesUptoRow : OpenClaim := { program := "ytiachpjejebhjaa", sum := "9947c68b9fc446e2ba6cc3c60bed7a9f65e0e0114f8c218ce4fbbe23134e3995", func := "thunkmill/thunkmilllaw01.SourceNames", spec := "sourceNames", inPlace := ["internal/bytealg.IndexByteString"], unfollowed := true, recurses := true, apart := false, narrowed := true }
def SourceNamesUptoSaid : Prop := sourceNamesUptoRow.holds Try.pinned (OpenSpec.upto sourceNamesSpec)

/-- 'thunkmilllaw01.SourceCalls', WHERE WHAT IT READS IS OF BULK AT MOST 1048576: true; the input reads as it did. -/
def sourceCallsUptoRow : OpenClaim := { program := "ytiachpjejebhjaa", sum := "9947c68b9fc446e2ba6cc3c60bed7a9f65e0e0114f8c218ce4fbbe23134e3995", func := "thunkmill/thunkmilllaw01.SourceCalls", spec := "sourceCalls", inPlace := ["internal/bytealg.IndexByteString"], unfollowed := true, recurses := true, apart := false, narrowed := true }
def SourceCallsUptoSaid : Prop := sourceCallsUptoRow.holds Try.pinned (OpenSpec.upto sourceCallsSpec)

end Rows
end Go.Proofs.Ytiachpjejebhjaa
