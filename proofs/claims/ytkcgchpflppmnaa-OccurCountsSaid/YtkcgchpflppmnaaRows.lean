/-
  NARROWER THAN 'FOR EVERY INPUT', by the rows' own cells (each row's printed sentence says how): OccurCalls: loops · OccurCounts: loops.
  DERIVED. THE GIVEN ROWS OF THIS SEAT. 3 by the template 'for every input the law returns true; each argument reads behind the call as it read before'; 0 by the template 'total and deterministic' (their statements: YtkcgchpflppmnaaTotals.lean).
  GIVEN WITH THE SEED: the statements are not yours to turn. If you find one false, say at which input.
  Laid BY PROGRAM, IN A SANDBOX (cutbox-rows.mjs): the forced cells as the released guide's own fill.sh prints them over the translation 371b731fe33c418a… (all of the seat's roots in one cut). By AI agents, Wed Nov 11 2026. No macro, syntax, notation, axiom, sorry.
-/
import Derived.Test.YtkcgchpflppmnaaChecked
import GoSem.Claim
import GoSem.ClaimJoined
import GoSem.ClaimMapViews
import Derived.JoinedTies
import Derived.KernelRfl
namespace Go.Proofs.Ytkcgchpflppmnaa
/- THE CELL 'sum', in the pinned program and in every row, IS THE sha256 OF THE DUMP (.gsa) THAT YtkcgchpflppmnaaProg.lean LOADS. Nothing in Lean hashes anything: it is a label: what it is worth is what the hold of that sum in a sandbox is worth. -/
noncomputable def Try.pinned : Pinned := { name := "ytkcgchpflppmnaa", sum := "371b731fe33c418ae43b029f6a8ab9e0b557758530c4866ffa214b7249c31d0f", checked := Try.checked }
namespace Rows
def none {H : Type} : Left H := { results := [], args := [] }

/-- 'thunkmilllaw16.OccurNames': WHATEVER THE INPUT: true; the input reads as it did. -/
def occurNamesSpec : ChangeSpec := { name := "occurNames", fn := fun _ => fun
  | [] => { results := [.lit (.bool true)], args := [] }
  | _ => none }
def occurNamesRow : OpenClaim := { program := "ytkcgchpflppmnaa", sum := "371b731fe33c418ae43b029f6a8ab9e0b557758530c4866ffa214b7249c31d0f", func := "thunkmill/thunkmilllaw16.OccurNames", spec := "occurNames", recurses := true, apart := false }
def OccurNamesSaid : Prop := occurNamesRow.holds Try.pinned (OpenSpec.ofChange occurNamesSpec)

/-- ITS FALSE NEIGHBOUR: 'it returns false'. Refute it at one input. -/
def occurNamesWrong : ChangeSpec := { name := "occurNames", fn := fun _ => fun
  | [] => { results := [.lit (.bool false)], args := [] }
  | _ => none }
def OccurNamesWrongFalsely : Prop := occurNamesRow.holds Try.pinned (OpenSpec.ofChange occurNamesWrong)

/-- 'thunkmilllaw16.OccurCalls': WHATEVER THE INPUT: true; the input reads as it did. -/
def occurCallsSpec : ChangeSpec := { name := "occurCalls", fn := fun _ => fun
  | [d1, d2] => { results := [.lit (.bool true)], args := [d1, d2] }
  | _ => none }
def occurCallsRow : OpenClaim := { program := "ytkcgchpflppmnaa", sum := "371b731fe33c418ae43b029f6a8ab9e0b557758530c4866ffa214b7249c31d0f", func := "thunkmill/thunkmilllaw16.OccurCalls", spec := "occurCalls", recurses := true, loops := true, apart := false }
def OccurCallsSaid : Prop := occurCallsRow.holds Try.pinned (OpenSpec.ofChange occurCallsSpec)

/-- ITS FALSE NEIGHBOUR: 'it returns false'. Refute it at one input. -/
def occurCallsWrong : ChangeSpec := { name := "occurCalls", fn := fun _ => fun
  | [d1, d2] => { results := [.lit (.bool false)], args := [d1, d2] }
  | _ => none }
def OccurCallsWrongFalsely : Prop := occurCallsRow.holds Try.pinned (OpenSpec.ofChange occurCallsWrong)

/-- 'thunkmilllaw16.OccurCounts': WHATEVER THE INPUT: true; the input reads as it did. -/
def occurCountsSpec : ChangeSpec := { name := "occurCounts", fn := fun _ => fun
  | [d1, d2] => { results := [.lit (.bool true)], args := [d1, d2] }
  | _ => none }
def occurCountsRow : OpenClaim := { program := "ytkcgchpflppmnaa", sum := "371b731fe33c418ae43b029f6a8ab9e0b557758530c4866ffa214b7249c31d0f", func := "thunkmill/thunkmilllaw16.OccurCounts", spec := "occurCounts", inPlace := ["internal/bytealg.IndexByteString", "internal/bytealg.IndexString"], unfollowed := true, recurses := true, named := ["internal/bytealg.MaxLen"], loops := true, apart := false }
def OccurCountsSaid : Prop := occurCountsRow.holds Try.pinned (OpenSpec.ofChange occurCountsSpec)

/-- ITS FALSE NEIGHBOUR: 'it returns false'. Refute it at one input. -/
def occurCountsWrong : ChangeSpec := { name := "occurCounts", fn := fun _ => fun
  | [d1, d2] => { results := [.lit (.bool false)], args := [d1, d2] }
  | _ => none }
def OccurCountsWrongFalsely : Prop := occurCountsRow.holds Try.pinned (OpenSpec.ofChange occurCountsWrong)

/- THE SECOND FORM. 'bulk': how many values and letters a reading holds, each counted each time it is reached (what is shared counts as often as it is met; a slice's spare places count too). A statement '..UptoSaid' is the law's where the arguments, and the package variables that the reading takes, are together of bulk at most 1048576: NARROWER than '..Said'. Prove '..Said' where nothing that the law and all that it calls make is longer than what came in: it says more and counts as full. Else prove '..UptoSaid'. A law counts once. -/
mutual
def uptoBulk {H : Type} : DataW H → Nat
  | .lit (.string bytes) => bytes.length + 1
  | .lit _ => 1
  | .nil => 1
  | .ptr d => uptoBulk d + 1
  | .slice elems spare => uptoBulkAll elems + uptoBulkAll spare + 1
  | .agg parts => uptoBulkAll parts + 1
  | .iface _ d => uptoBulk d + 1
  | .map entries => uptoBulkEntries entries + 1
  | .held _ => 1
def uptoBulkAll {H : Type} : List (DataW H) → Nat
  | [] => 0
  | d :: r => uptoBulk d + uptoBulkAll r
def uptoBulkEntries {H : Type} : List (Lit × DataW H) → Nat
  | [] => 0
  | x :: r => uptoBulkEntry x + uptoBulkEntries r
def uptoBulkEntry {H : Type} : Lit × DataW H → Nat
  | (.string bytes, d) => bytes.length + uptoBulk d + 1
  | (_, d) => uptoBulk d + 1
 end
def uptoSmall : (H : Type) → List (DataW H) → Bool := fun _ ds => decide (uptoBulkAll ds ≤ 1048576)
def OpenSpec.upto (s : _root_.Go.ChangeSpec) : _root_.Go.OpenSpec := { _root_.Go.OpenSpec.ofChange s with cond := some uptoSmall }

/-- 'thunkmilllaw16.OccurNames', WHERE WHAT IT READS IS OF BULK AT MOST 1048576: true; the input reads as it did. -/
def occurNamesUptoRow : OpenClaim := { program := "ytkcgchpflppmnaa", sum := "371b731fe33c418ae43b029f6a8ab9e0b557758530c4866ffa214b7249c31d0f", func := "thunkmill/thunkmilllaw16.OccurNames", spec := "occurNames", recurses := true, apart := false, narrowed := true }
def OccurNamesUptoSaid : Prop := occurNamesUptoRow.holds Try.pinned (OpenSpec.upto occurNamesSpec)

/-- 'thunkmilllaw16.OccurCalls', WHERE WHAT IT READS IS OF BULK AT MOST 1048576: true; the input reads as it did. -/
def occurCallsUptoRow : OpenClaim := { program := "ytkcgchpflppmnaa", sum := "371b731fe33c418ae43b029f6a8ab9e0b557758530c4866ffa214b7249c31d0f", func := "thunkmill/thunkmilllaw16.OccurCalls", spec := "occurCalls", recurses := true, loops := true, apart := false, narrowed := true }
def OccurCallsUptoSaid : Prop := occurCallsUptoRow.holds Try.pinned (OpenSpec.upto occurCallsSpec)

/-- 'thunkmilllaw16.OccurCounts', WHERE WHAT IT READS IS OF BULK AT MOST 1048576: true; the input reads as it did. -/
def occurCountsUptoRow : OpenClaim := { program := "ytkcgchpflppmnaa", sum := "371b731fe33c418ae43b029f6a8ab9e0b557758530c4866ffa214b7249c31d0f", func := "thunkmill/thunkmilllaw16.OccurCounts", spec := "occurCounts", inPlace := ["internal/bytealg.IndexByteString", "internal/bytealg.IndexString"], unfollowed := true, recurses := true, named := ["internal/bytealg.MaxLen"], loops := true, apart := false, narrowed := true }
def OccurCountsUptoSaid : Prop := occurCountsUptoRow.holds Try.pinned (OpenSpec.upto occurCountsSpec)

end Rows
end Go.Proofs.Ytkcgchpflppmnaa
