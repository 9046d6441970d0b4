/-
  No cell of these rows narrows 'for every input' (looked for: loops, veiled, ifaces, maps, wideKeys, modest, calm, conditions, laid).
  DERIVED. THE GIVEN ROWS OF THIS SEAT. 5 by the template 'for every input the law returns true; each argument reads behind the call as it read before'; 0 by the template 'total and deterministic' (their statements: YtidodlbfnkoadaaTotals.lean).
  GIVEN WITH THE SEED: the statements are not yours to turn. If you find one false, say at which input.
  Laid BY PROGRAM, IN A SANDBOX (cutbox-rows.mjs): the forced cells as the released guide's own fill.sh prints them over the translation 5f875d62f7282570… (all of the seat's roots in one cut). By AI agents, Wed Nov 11 2026. No macro, syntax, notation, axiom, sorry.
-/
import Derived.Test.YtidodlbfnkoadaaChecked
import GoSem.Claim
import GoSem.ClaimJoined
import GoSem.ClaimMapViews
import Derived.JoinedTies
import Derived.KernelRfl
namespace Go.Proofs.Ytidodlbfnkoadaa
/- THE CELL 'sum', in the pinned program and in every row, IS THE sha256 OF THE DUMP (.gsa) THAT YtidodlbfnkoadaaProg.lean LOADS. Nothing in Lean hashes anything: it is a label: what it is worth is what the hold of that sum in a sandbox is worth. -/
noncomputable def Try.pinned : Pinned := { name := "ytidodlbfnkoadaa", sum := "5f875d62f7282570d825729dc0a5a9869b1faae26c168e1b4cc90908e59a1d4d", checked := Try.checked }
namespace Rows
def none {H : Type} : Left H := { results := [], args := [] }

/-- 'thunkmilllaw22.MinorNil': WHATEVER THE INPUT: true; the input reads as it did. -/
def minorNilSpec : ChangeSpec := { name := "minorNil", fn := fun _ => fun
  | [d] => { results := [.lit (.bool true)], args := [d] }
  | _ => none }
def minorNilRow : OpenClaim := { program := "ytidodlbfnkoadaa", sum := "5f875d62f7282570d825729dc0a5a9869b1faae26c168e1b4cc90908e59a1d4d", func := "thunkmill/thunkmilllaw22.MinorNil", spec := "minorNil", unfollowed := true, recurses := true, apart := false }
def MinorNilSaid : Prop := minorNilRow.holds Try.pinned (OpenSpec.ofChange minorNilSpec)

/-- ITS FALSE NEIGHBOUR: 'it returns false'. Refute it at one input. -/
def minorNilWrong : ChangeSpec := { name := "minorNil", fn := fun _ => fun
  | [d] => { results := [.lit (.bool false)], args := [d] }
  | _ => none }
def MinorNilWrongFalsely : Prop := minorNilRow.holds Try.pinned (OpenSpec.ofChange minorNilWrong)

/-- 'thunkmilllaw22.MinorNames': WHATEVER THE INPUT: true; the input reads as it did. -/
def minorNamesSpec : ChangeSpec := { name := "minorNames", fn := fun _ => fun
  | [] => { results := [.lit (.bool true)], args := [] }
  | _ => none }
def minorNamesRow : OpenClaim := { program := "ytidodlbfnkoadaa", sum := "5f875d62f7282570d825729dc0a5a9869b1faae26c168e1b4cc90908e59a1d4d", func := "thunkmill/thunkmilllaw22.MinorNames", spec := "minorNames", unfollowed := true, recurses := true, apart := false }
def MinorNamesSaid : Prop := minorNamesRow.holds Try.pinned (OpenSpec.ofChange minorNamesSpec)

/-- ITS FALSE NEIGHBOUR: 'it returns false'. Refute it at one input. -/
def minorNamesWrong : ChangeSpec := { name := "minorNames", fn := fun _ => fun
  | [] => { results := [.lit (.bool false)], args := [] }
  | _ => none }
def MinorNamesWrongFalsely : Prop := minorNamesRow.holds Try.pinned (OpenSpec.ofChange minorNamesWrong)

/-- 'thunkmilllaw22.MinorScript': WHATEVER THE INPUT: true; the input reads as it did. -/
def minorScriptSpec : ChangeSpec := { name := "minorScript", fn := fun _ => fun
  | [d1, d2, d3, d4] => { results := [.lit (.bool true)], args := [d1, d2, d3, d4] }
  | _ => none }
def minorScriptRow : OpenClaim := { program := "ytidodlbfnkoadaa", sum := "5f875d62f7282570d825729dc0a5a9869b1faae26c168e1b4cc90908e59a1d4d", func := "thunkmill/thunkmilllaw22.MinorScript", spec := "minorScript", unfollowed := true, recurses := true, apart := false }
def MinorScriptSaid : Prop := minorScriptRow.holds Try.pinned (OpenSpec.ofChange minorScriptSpec)

/-- ITS FALSE NEIGHBOUR: 'it returns false'. Refute it at one input. -/
def minorScriptWrong : ChangeSpec := { name := "minorScript", fn := fun _ => fun
  | [d1, d2, d3, d4] => { results := [.lit (.bool false)], args := [d1, d2, d3, d4] }
  | _ => none }
def MinorScriptWrongFalsely : Prop := minorScriptRow.holds Try.pinned (OpenSpec.ofChange minorScriptWrong)

/-- 'thunkmilllaw22.MinorTwice': WHATEVER THE INPUT: true; the input reads as it did. -/
def minorTwiceSpec : ChangeSpec := { name := "minorTwice", fn := fun _ => fun
  | [d1, d2, d3, d4] => { results := [.lit (.bool true)], args := [d1, d2, d3, d4] }
  | _ => none }
def minorTwiceRow : OpenClaim := { program := "ytidodlbfnkoadaa", sum := "5f875d62f7282570d825729dc0a5a9869b1faae26c168e1b4cc90908e59a1d4d", func := "thunkmill/thunkmilllaw22.MinorTwice", spec := "minorTwice", unfollowed := true, recurses := true, apart := false }
def MinorTwiceSaid : Prop := minorTwiceRow.holds Try.pinned (OpenSpec.ofChange minorTwiceSpec)

/-- ITS FALSE NEIGHBOUR: 'it returns false'. Refute it at one input. -/
def minorTwiceWrong : ChangeSpec := { name := "minorTwice", fn := fun _ => fun
  | [d1, d2, d3, d4] => { results := [.lit (.bool false)], args := [d1, d2, d3, d4] }
  | _ => none }
def MinorTwiceWrongFalsely : Prop := minorTwiceRow.holds Try.pinned (OpenSpec.ofChange minorTwiceWrong)

/-- 'thunkmilllaw22.MinorKeeps': WHATEVER THE INPUT: true; the input reads as it did. -/
def minorKeepsSpec : ChangeSpec := { name := "minorKeeps", fn := fun _ => fun
  | [d1, d2, d3, d4] => { results := [.lit (.bool true)], args := [d1, d2, d3, d4] }
  | _ => none }
def minorKeepsRow : OpenClaim := { program := "ytidodlbfnkoadaa", sum := "5f875d62f7282570d825729dc0a5a9869b1faae26c168e1b4cc90908e59a1d4d", func := "thunkmill/thunkmilllaw22.MinorKeeps", spec := "minorKeeps", unfollowed := true, recurses := true, apart := false }
def MinorKeepsSaid : Prop := minorKeepsRow.holds Try.pinned (OpenSpec.ofChange minorKeepsSpec)

/-- ITS FALSE NEIGHBOUR: 'it returns false'. Refute it at one input. -/
def minorKeepsWrong : ChangeSpec := { name := "minorKeeps", fn := fun _ => fun
  | [d1, d2, d3, d4] => { results := [.lit (.bool false)], args := [d1, d2, d3, d4] }
  | _ => none }
def MinorKeepsWrongFalsely : Prop := minorKeepsRow.holds Try.pinned (OpenSpec.ofChange minorKeepsWrong)

/- THE SECOND FORM. 'bulk': how many values and letters a reading holds, each counted each time it is reached (what is shared counts as often as it is met; a slice's spare places count too). A statement '..UptoSaid' is the law's where the arguments, and the package variables that the reading takes, are together of bulk at most 1048576: NARROWER than '..Said'. Prove '..Said' where nothing that the law and all that it calls make is longer than what came in: it says more and counts as full. Else prove '..UptoSaid'. A law counts once. -/
mutual
def uptoBulk {H : Type} : DataW H → Nat
  | .lit (.string bytes) => bytes.length + 1
  | .lit _ => 1
  | .nil => 1
  | .ptr d => uptoBulk d + 1
  | .slice elems spare => uptoBulkAll elems + uptoBulkAll spare + 1
  | .agg parts => uptoBulkAll parts + 1
  | .iface _ d => uptoBulk d + 1
  | .map entries => uptoBulkEntries entries + 1
  | .held _ => 1
def uptoBulkAll {H : Type} : List (DataW H) → Nat
  | [] => 0
  | d :: r => uptoBulk d + uptoBulkAll r
def uptoBulkEntries {H : Type} : List (Lit × DataW H) → Nat
  | [] => 0
  | x :: r => uptoBulkEntry x + uptoBulkEntries r
def uptoBulkEntry {H : Type} : Lit × DataW H → Nat
  | (.string bytes, d) => bytes.length + uptoBulk d + 1
  | (_, d) => uptoBulk d + 1
 end
def uptoSmall : (H : Type) → List (DataW H) → Bool := fun _ ds => decide (uptoBulkAll ds ≤ 1048576)
def OpenSpec.upto (s : _root_.Go.ChangeSpec) : _root_.Go.OpenSpec := { _root_.Go.OpenSpec.ofChange s with cond := some uptoSmall }

/-- 'thunkmilllaw22.MinorNil', WHERE WHAT IT READS IS OF BULK AT MOST 1048576: true; the input reads as it did. -/
def minorNilUptoRow : OpenClaim := { program := "ytidodlbfnkoadaa", sum := "5f875d62f7282570d825729dc0a5a9869b1faae26c168e1b4cc90908e59a1d4d", func := "thunkmill/thunkmilllaw22.MinorNil", spec := "minorNil", unfollowed := true, recurses := true, apart := false, narrowed := true }
def MinorNilUptoSaid : Prop := minorNilUptoRow.holds Try.pinned (OpenSpec.upto minorNilSpec)

/-- 'thunkmilllaw22.MinorNames', WHERE WHAT IT READS IS OF BULK AT MOST 1048576: true; the input reads as it did. -/
def minorNamesUptoRow : OpenClaim := { program := "ytidodlbfnkoadaa", sum := "5f875d62f7282570d825729dc0a5a9869b1faae26c168e1b4cc90908e59a1d4d", func := "thunkmill/thunkmilllaw22.MinorNames", spec := "minorNames", unfollowed := true, recurses := true, apart := false, narrowed := true }
def MinorNamesUptoSaid : Prop := minorNamesUptoRow.holds Try.pinned (OpenSpec.upto minorNamesSpec)

/-- 'thunkmilllaw22.MinorScript', WHERE WHAT IT READS IS OF BULK AT MOST 1048576: true; the input reads as it did. -/
def minorScriptUptoRow : OpenClaim := { program := "ytidodlbfnkoadaa", sum := "5f875d62f7282570d825729dc0a5a9869b1faae26c168e1b4cc90908e59a1d4d", func := "thunkmill/thunkmilllaw22.MinorScript", spec := "minorScript", unfollowed := true, recurses := true, apart := false, narrowed := true }
def MinorScriptUptoSaid : Prop := minorScriptUptoRow.holds Try.pinned (OpenSpec.upto minorScriptSpec)

/-- 'thunkmilllaw22.MinorTwice', WHERE WHAT IT READS IS OF BULK AT MOST 1048576: true; the input reads as it did. -/
def minorTwiceUptoRow : OpenClaim := { program := "ytidodlbfnkoadaa", sum := "5f875d62f7282570d825729dc0a5a9869b1faae26c168e1b4cc90908e59a1d4d", func := "thunkmill/thunkmilllaw22.MinorTwice", spec := "minorTwice", unfollowed := true, recurses := true, apart := false, narrowed := true }
def MinorTwiceUptoSaid : Prop := minorTwiceUptoRow.holds Try.pinned (OpenSpec.upto minorTwiceSpec)

/-- 'thunkmilllaw22.MinorKeeps', WHERE WHAT IT READS IS OF BULK AT MOST 1048576: true; the input reads as it did. -/
def minorKeepsUptoRow : OpenClaim := { program := "ytidodlbfnkoadaa", sum := "5f875d62f7282570d825729dc0a5a9869b1faae26c168e1b4cc90908e59a1d4d", func := "thunkmill/thunkmilllaw22.MinorKeeps", spec := "minorKeeps", unfollowed := true, recurses := true, apart := false, narrowed := true }
def MinorKeepsUptoSaid : Prop := minorKeepsUptoRow.holds Try.pinned (OpenSpec.upto minorKeepsSpec)

end Rows
end Go.Proofs.Ytidodlbfnkoadaa
