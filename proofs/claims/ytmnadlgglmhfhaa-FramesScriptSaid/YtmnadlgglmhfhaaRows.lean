/-
  No cell of these rows narrows 'for every input' (looked for: loops, veiled, ifaces, maps, wideKeys, modest, calm, conditions, laid).
  DERIVED. THE GIVEN ROWS OF THIS SEAT. 5 by the template 'for every input the law returns true; each argument reads behind the call as it read before'; 0 by the template 'total and deterministic' (their statements: YtmnadlgglmhfhaaTotals.lean).
  GIVEN WITH THE SEED: the statements are not yours to turn. If you find one false, say at which input.
  Laid BY PROGRAM, IN A SANDBOX (cutbox-rows.mjs): the forced cells as the released guide's own fill.sh prints them over the translation 05199463a874a09f… (all of the seat's roots in one cut). By AI agents, Wed Nov 11 2026. No macro, syntax, notation, axiom, sorry.
-/
import Derived.Test.YtmnadlgglmhfhaaChecked
import GoSem.Claim
import GoSem.ClaimJoined
import GoSem.ClaimMapViews
import Derived.JoinedTies
import Derived.KernelRfl
namespace Go.Proofs.Ytmnadlgglmhfhaa
/- THE CELL 'sum', in the pinned program and in every row, IS THE sha256 OF THE DUMP (.gsa) THAT YtmnadlgglmhfhaaProg.lean LOADS. Nothing in Lean hashes anything: it is a label: what it is worth is what the hold of that sum in a sandbox is worth. -/
noncomputable def Try.pinned : Pinned := { name := "ytmnadlgglmhfhaa", sum := "05199463a874a09fd33f37461aeaae288cf600cf8ef46d9f6e13534e7f96d64d", checked := Try.checked }
namespace Rows
def none {H : Type} : Left H := { results := [], args := [] }

/-- 'thunkmilllaw24.FramesBack': WHATEVER THE INPUT: true; the input reads as it did. -/
def framesBackSpec : ChangeSpec := { name := "framesBack", fn := fun _ => fun
  | [d1, d2] => { results := [.lit (.bool true)], args := [d1, d2] }
  | _ => none }
def framesBackRow : OpenClaim := { program := "ytmnadlgglmhfhaa", sum := "05199463a874a09fd33f37461aeaae288cf600cf8ef46d9f6e13534e7f96d64d", func := "thunkmill/thunkmilllaw24.FramesBack", spec := "framesBack", apart := false }
def FramesBackSaid : Prop := framesBackRow.holds Try.pinned (OpenSpec.ofChange framesBackSpec)

/-- ITS FALSE NEIGHBOUR: 'it returns false'. Refute it at one input. -/
def framesBackWrong : ChangeSpec := { name := "framesBack", fn := fun _ => fun
  | [d1, d2] => { results := [.lit (.bool false)], args := [d1, d2] }
  | _ => none }
def FramesBackWrongFalsely : Prop := framesBackRow.holds Try.pinned (OpenSpec.ofChange framesBackWrong)

/-- 'thunkmilllaw24.FramesNames': WHATEVER THE INPUT: true; the input reads as it did. -/
def framesNamesSpec : ChangeSpec := { name := "framesNames", fn := fun _ => fun
  | [] => { results := [.lit (.bool true)], args := [] }
  | _ => none }
def framesNamesRow : OpenClaim := { program := "ytmnadlgglmhfhaa", sum := "05199463a874a09fd33f37461aeaae288cf600cf8ef46d9f6e13534e7f96d64d", func := "thunkmill/thunkmilllaw24.FramesNames", spec := "framesNames", apart := false }
def FramesNamesSaid : Prop := framesNamesRow.holds Try.pinned (OpenSpec.ofChange framesNamesSpec)

/-- ITS FALSE NEIGHBOUR: 'it returns false'. Refute it at one input. -/
def framesNamesWrong : ChangeSpec := { name := "framesNames", fn := fun _ => fun
  | [] => { results := [.lit (.bool false)], args := [] }
  | _ => none }
def FramesNamesWrongFalsely : Prop := framesNamesRow.holds Try.pinned (OpenSpec.ofChange framesNamesWrong)

/-- 'thunkmilllaw24.FramesTurns': WHATEVER THE INPUT: true; the input reads as it did. -/
def framesTurnsSpec : ChangeSpec := { name := "framesTurns", fn := fun _ => fun
  | [d1, d2] => { results := [.lit (.bool true)], args := [d1, d2] }
  | _ => none }
def framesTurnsRow : OpenClaim := { program := "ytmnadlgglmhfhaa", sum := "05199463a874a09fd33f37461aeaae288cf600cf8ef46d9f6e13534e7f96d64d", func := "thunkmill/thunkmilllaw24.FramesTurns", spec := "framesTurns", apart := false }
def FramesTurnsSaid : Prop := framesTurnsRow.holds Try.pinned (OpenSpec.ofChange framesTurnsSpec)

/-- ITS FALSE NEIGHBOUR: 'it returns false'. Refute it at one input. -/
def framesTurnsWrong : ChangeSpec := { name := "framesTurns", fn := fun _ => fun
  | [d1, d2] => { results := [.lit (.bool false)], args := [d1, d2] }
  | _ => none }
def FramesTurnsWrongFalsely : Prop := framesTurnsRow.holds Try.pinned (OpenSpec.ofChange framesTurnsWrong)

/-- 'thunkmilllaw24.FramesScript': WHATEVER THE INPUT: true; the input reads as it did. -/
def framesScriptSpec : ChangeSpec := { name := "framesScript", fn := fun _ => fun
  | [d1, d2] => { results := [.lit (.bool true)], args := [d1, d2] }
  | _ => none }
def framesScriptRow : OpenClaim := { program := "ytmnadlgglmhfhaa", sum := "05199463a874a09fd33f37461aeaae288cf600cf8ef46d9f6e13534e7f96d64d", func := "thunkmill/thunkmilllaw24.FramesScript", spec := "framesScript", apart := false }
def FramesScriptSaid : Prop := framesScriptRow.holds Try.pinned (OpenSpec.ofChange framesScriptSpec)

/-- ITS FALSE NEIGHBOUR: 'it returns false'. Refute it at one input. -/
def framesScriptWrong : ChangeSpec := { name := "framesScript", fn := fun _ => fun
  | [d1, d2] => { results := [.lit (.bool false)], args := [d1, d2] }
  | _ => none }
def FramesScriptWrongFalsely : Prop := framesScriptRow.holds Try.pinned (OpenSpec.ofChange framesScriptWrong)

/-- 'thunkmilllaw24.FramesNil': WHATEVER THE INPUT: true; the input reads as it did. -/
def framesNilSpec : ChangeSpec := { name := "framesNil", fn := fun _ => fun
  | [d] => { results := [.lit (.bool true)], args := [d] }
  | _ => none }
def framesNilRow : OpenClaim := { program := "ytmnadlgglmhfhaa", sum := "05199463a874a09fd33f37461aeaae288cf600cf8ef46d9f6e13534e7f96d64d", func := "thunkmill/thunkmilllaw24.FramesNil", spec := "framesNil", apart := false }
def FramesNilSaid : Prop := framesNilRow.holds Try.pinned (OpenSpec.ofChange framesNilSpec)

/-- ITS FALSE NEIGHBOUR: 'it returns false'. Refute it at one input. -/
def framesNilWrong : ChangeSpec := { name := "framesNil", fn := fun _ => fun
  | [d] => { results := [.lit (.bool false)], args := [d] }
  | _ => none }
def FramesNilWrongFalsely : Prop := framesNilRow.holds Try.pinned (OpenSpec.ofChange framesNilWrong)

/- THE SECOND FORM. 'bulk': how many values and letters a reading holds, each counted each time it is reached (what is shared counts as often as it is met; a slice's spare places count too). A statement '..UptoSaid' is the law's where the arguments, and the package variables that the reading takes, are together of bulk at most 1048576: NARROWER than '..Said'. Prove '..Said' where nothing that the law and all that it calls make is longer than what came in: it says more and counts as full. Else prove '..UptoSaid'. A law counts once. -/
mutual
def uptoBulk {H : Type} : DataW H → Nat
  | .lit (.string bytes) => bytes.length + 1
  | .lit _ => 1
  | .nil => 1
  | .ptr d => uptoBulk d + 1
  | .slice elems spare => uptoBulkAll elems + uptoBulkAll spare + 1
  | .agg parts => uptoBulkAll parts + 1
  | .iface _ d => uptoBulk d + 1
  | .map entries => uptoBulkEntries entries + 1
  | .held _ => 1
def uptoBulkAll {H : Type} : List (DataW H) → Nat
  | [] => 0
  | d :: r => uptoBulk d + uptoBulkAll r
def uptoBulkEntries {H : Type} : List (Lit × DataW H) → Nat
  | [] => 0
  | x :: r => uptoBulkEntry x + uptoBulkEntries r
def uptoBulkEntry {H : Type} : Lit × DataW H → Nat
  | (.string bytes, d) => bytes.length + uptoBulk d + 1
  | (_, d) => uptoBulk d + 1
 end
def uptoSmall : (H : Type) → List (DataW H) → Bool := fun _ ds => decide (uptoBulkAll ds ≤ 1048576)
def OpenSpec.upto (s : _root_.Go.ChangeSpec) : _root_.Go.OpenSpec := { _root_.Go.OpenSpec.ofChange s with cond := some uptoSmall }

/-- 'thunkmilllaw24.FramesBack', WHERE WHAT IT READS IS OF BULK AT MOST 1048576: true; the input reads as it did. -/
def framesBackUptoRow : OpenClaim := { program := "ytmnadlgglmhfhaa", sum := "05199463a874a09fd33f37461aeaae288cf600cf8ef46d9f6e13534e7f96d64d", func := "thunkmill/thunkmilllaw24.FramesBack", spec := "framesBack", apart := false, narrowed := true }
def FramesBackUptoSaid : Prop := framesBackUptoRow.holds Try.pinned (OpenSpec.upto framesBackSpec)

/-- 'thunkmilllaw24.FramesNames', WHERE WHAT IT READS IS OF BULK AT MOST 1048576: true; the input reads as it did. -/
def framesNamesUptoRow : OpenClaim := { program := "ytmnadlgglmhfhaa", sum := "05199463a874a09fd33f37461aeaae288cf600cf8ef46d9f6e13534e7f96d64d", func := "thunkmill/thunkmilllaw24.FramesNames", spec := "framesNames", apart := false, narrowed := true }
def FramesNamesUptoSaid : Prop := framesNamesUptoRow.holds Try.pinned (OpenSpec.upto framesNamesSpec)

/-- 'thunkmilllaw24.FramesTurns', WHERE WHAT IT READS IS OF BULK AT MOST 1048576: true; the input reads as it did. -/
def framesTurnsUptoRow : OpenClaim := { program := "ytmnadlgglmhfhaa", sum := "05199463a874a09fd33f37461aeaae288cf600cf8ef46d9f6e13534e7f96d64d", func := "thunkmill/thunkmilllaw24.FramesTurns", spec := "framesTurns", apart := false, narrowed := true }
def FramesTurnsUptoSaid : Prop := framesTurnsUptoRow.holds Try.pinned (OpenSpec.upto framesTurnsSpec)

/-- 'thunkmilllaw24.FramesScript', WHERE WHAT IT READS IS OF BULK AT MOST 1048576: true; the input reads as it did. -/
def framesScriptUptoRow : OpenClaim := { program := "ytmnadlgglmhfhaa", sum := "05199463a874a09fd33f37461aeaae288cf600cf8ef46d9f6e13534e7f96d64d", func := "thunkmill/thunkmilllaw24.FramesScript", spec := "framesScript", apart := false, narrowed := true }
def FramesScriptUptoSaid : Prop := framesScriptUptoRow.holds Try.pinned (OpenSpec.upto framesScriptSpec)

/-- 'thunkmilllaw24.FramesNil', WHERE WHAT IT READS IS OF BULK AT MOST 1048576: true; the input reads as it did. -/
def framesNilUptoRow : OpenClaim := { program := "ytmnadlgglmhfhaa", sum := "05199463a874a09fd33f37461aeaae288cf600cf8ef46d9f6e13534e7f96d64d", func := "thunkmill/thunkmilllaw24.FramesNil", spec := "framesNil", apart := false, narrowed := true }
def FramesNilUptoSaid : Prop := framesNilUptoRow.holds Try.pinned (OpenSpec.upto framesNilSpec)

end Rows
end Go.Proofs.Ytmnadlgglmhfhaa
