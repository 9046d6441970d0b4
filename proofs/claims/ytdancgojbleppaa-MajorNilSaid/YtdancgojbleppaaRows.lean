/-
  No cell of these rows narrows 'for every input' (looked for: loops, veiled, ifaces, maps, wideKeys, modest, calm, conditions, laid).
  DERIVED. THE GIVEN ROWS OF THIS SEAT. 3 by the template 'for every input the law returns true; each argument reads behind the call as it read before'; 0 by the template 'total and deterministic' (their statements: YtdancgojbleppaaTotals.lean).
  GIVEN WITH THE SEED: the statements are not yours to turn. If you find one false, say at which input.
  Laid BY PROGRAM, IN A SANDBOX (cutbox-rows.mjs): the forced cells as the released guide's own fill.sh prints them over the translation d85d6723a2dbe032… (all of the seat's roots in one cut). By AI agents, Wed Nov 11 2026. No macro, syntax, notation, axiom, sorry.
-/
import Derived.Test.YtdancgojbleppaaChecked
import GoSem.Claim
import GoSem.ClaimJoined
import GoSem.ClaimMapViews
import Derived.JoinedTies
import Derived.KernelRfl
namespace Go.Proofs.Ytdancgojbleppaa
/- THE CELL 'sum', in the pinned program and in every row, IS THE sha256 OF THE DUMP (.gsa) THAT YtdancgojbleppaaProg.lean LOADS. Nothing in Lean hashes anything: it is a label: what it is worth is what the hold of that sum in a sandbox is worth. -/
noncomputable def Try.pinned : Pinned := { name := "ytdancgojbleppaa", sum := "d85d6723a2dbe03226c582d63bb38f823a11470df544d5d15821e0db33eee108", checked := Try.checked }
namespace Rows
def none {H : Type} : Left H := { results := [], args := [] }

/-- 'thunkmilllaw23.MajorNames': WHATEVER THE INPUT: true; the input reads as it did. -/
def majorNamesSpec : ChangeSpec := { name := "majorNames", fn := fun _ => fun
  | [] => { results := [.lit (.bool true)], args := [] }
  | _ => none }
def majorNamesRow : OpenClaim := { program := "ytdancgojbleppaa", sum := "d85d6723a2dbe03226c582d63bb38f823a11470df544d5d15821e0db33eee108", func := "thunkmill/thunkmilllaw23.MajorNames", spec := "majorNames", unfollowed := true, recurses := true, apart := false }
def MajorNamesSaid : Prop := majorNamesRow.holds Try.pinned (OpenSpec.ofChange majorNamesSpec)

/-- ITS FALSE NEIGHBOUR: 'it returns false'. Refute it at one input. -/
def majorNamesWrong : ChangeSpec := { name := "majorNames", fn := fun _ => fun
  | [] => { results := [.lit (.bool false)], args := [] }
  | _ => none }
def MajorNamesWrongFalsely : Prop := majorNamesRow.holds Try.pinned (OpenSpec.ofChange majorNamesWrong)

/-- 'thunkmilllaw23.MajorNil': WHATEVER THE INPUT: true; the input reads as it did. -/
def majorNilSpec : ChangeSpec := { name := "majorNil", fn := fun _ => fun
  | [d] => { results := [.lit (.bool true)], args := [d] }
  | _ => none }
def majorNilRow : OpenClaim := { program := "ytdancgojbleppaa", sum := "d85d6723a2dbe03226c582d63bb38f823a11470df544d5d15821e0db33eee108", func := "thunkmill/thunkmilllaw23.MajorNil", spec := "majorNil", unfollowed := true, recurses := true, apart := false }
def MajorNilSaid : Prop := majorNilRow.holds Try.pinned (OpenSpec.ofChange majorNilSpec)

/-- ITS FALSE NEIGHBOUR: 'it returns false'. Refute it at one input. -/
def majorNilWrong : ChangeSpec := { name := "majorNil", fn := fun _ => fun
  | [d] => { results := [.lit (.bool false)], args := [d] }
  | _ => none }
def MajorNilWrongFalsely : Prop := majorNilRow.holds Try.pinned (OpenSpec.ofChange majorNilWrong)

/-- 'thunkmilllaw23.MajorKeeps': WHATEVER THE INPUT: true; the input reads as it did. -/
def majorKeepsSpec : ChangeSpec := { name := "majorKeeps", fn := fun _ => fun
  | [d1, d2, d3, d4] => { results := [.lit (.bool true)], args := [d1, d2, d3, d4] }
  | _ => none }
def majorKeepsRow : OpenClaim := { program := "ytdancgojbleppaa", sum := "d85d6723a2dbe03226c582d63bb38f823a11470df544d5d15821e0db33eee108", func := "thunkmill/thunkmilllaw23.MajorKeeps", spec := "majorKeeps", unfollowed := true, recurses := true, apart := false }
def MajorKeepsSaid : Prop := majorKeepsRow.holds Try.pinned (OpenSpec.ofChange majorKeepsSpec)

/-- ITS FALSE NEIGHBOUR: 'it returns false'. Refute it at one input. -/
def majorKeepsWrong : ChangeSpec := { name := "majorKeeps", fn := fun _ => fun
  | [d1, d2, d3, d4] => { results := [.lit (.bool false)], args := [d1, d2, d3, d4] }
  | _ => none }
def MajorKeepsWrongFalsely : Prop := majorKeepsRow.holds Try.pinned (OpenSpec.ofChange majorKeepsWrong)

/- THE SECOND FORM. 'bulk': how many values and letters a reading holds, each counted each time it is reached (what is shared counts as often as it is met; a slice's spare places count too). A statement '..UptoSaid' is the law's where the arguments, and the package variables that the reading takes, are together of bulk at most 1048576: NARROWER than '..Said'. Prove '..Said' where nothing that the law and all that it calls make is longer than what came in: it says more and counts as full. Else prove '..UptoSaid'. A law counts once. -/
mutual
def uptoBulk {H : Type} : DataW H → Nat
  | .lit (.string bytes) => bytes.length + 1
  | .lit _ => 1
  | .nil => 1
  | .ptr d => uptoBulk d + 1
  | .slice elems spare => uptoBulkAll elems + uptoBulkAll spare + 1
  | .agg parts => uptoBulkAll parts + 1
  | .iface _ d => uptoBulk d + 1
  | .map entries => uptoBulkEntries entries + 1
  | .held _ => 1
def uptoBulkAll {H : Type} : List (DataW H) → Nat
  | [] => 0
  | d :: r => uptoBulk d + uptoBulkAll r
def uptoBulkEntries {H : Type} : List (Lit × DataW H) → Nat
  | [] => 0
  | x :: r => uptoBulkEntry x + uptoBulkEntries r
def uptoBulkEntry {H : Type} : Lit × DataW H → Nat
  | (.string bytes, d) => bytes.length + uptoBulk d + 1
  | (_, d) => uptoBulk d + 1
 end
def uptoSmall : (H : Type) → List (DataW H) → Bool := fun _ ds => decide (uptoBulkAll ds ≤ 1048576)
def OpenSpec.upto (s : _root_.Go.ChangeSpec) : _root_.Go.OpenSpec := { _root_.Go.OpenSpec.ofChange s with cond := some uptoSmall }

/-- 'thunkmilllaw23.MajorNames', WHERE WHAT IT READS IS OF BULK AT MOST 1048576: true; the input reads as it did. -/
def majorNamesUptoRow : OpenClaim := { program := "ytdancgojbleppaa", sum := "d85d6723a2dbe03226c582d63bb38f823a11470df544d5d15821e0db33eee108", func := "thunkmill/thunkmilllaw23.MajorNames", spec := "majorNames", unfollowed := true, recurses := true, apart := false, narrowed := true }
def MajorNamesUptoSaid : Prop := majorNamesUptoRow.holds Try.pinned (OpenSpec.upto majorNamesSpec)

/-- 'thunkmilllaw23.MajorNil', WHERE WHAT IT READS IS OF BULK AT MOST 1048576: true; the input reads as it did. -/
def majorNilUptoRow : OpenClaim := { program := "ytdancgojbleppaa", sum := "d85d6723a2dbe03226c582d63bb38f823a11470df544d5d15821e0db33eee108", func := "thunkmill/thunkmilllaw23.MajorNil", spec := "majorNil", unfollowed := true, recurses := true, apart := false, narrowed := true }
def MajorNilUptoSaid : Prop := majorNilUptoRow.holds Try.pinned (OpenSpec.upto majorNilSpec)

/-- 'thunkmilllaw23.MajorKeeps', WHERE WHAT IT READS IS OF BULK AT MOST 1048576: true; the input reads as it did. -/
def majorKeepsUptoRow : OpenClaim := { program := "ytdancgojbleppaa", sum := "d85d6723a2dbe03226c582d63bb38f823a11470df544d5d15821e0db33eee108", func := "thunkmill/thunkmilllaw23.MajorKeeps", spec := "majorKeeps", unfollowed := true, recurses := true, apart := false, narrowed := true }
def MajorKeepsUptoSaid : Prop := majorKeepsUptoRow.holds Try.pinned (OpenSpec.upto majorKeepsSpec)

end Rows
end Go.Proofs.Ytdancgojbleppaa
