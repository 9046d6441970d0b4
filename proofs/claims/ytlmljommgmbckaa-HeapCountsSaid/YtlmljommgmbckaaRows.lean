/-
  No cell of these rows narrows 'for every input' (looked for: loops, veiled, ifaces, maps, wideKeys, modest, calm, conditions, laid).
  DERIVED. THE GIVEN ROWS OF THIS SEAT. 6 by the template 'for every input the law returns true; each argument reads behind the call as it read before'; 0 by the template 'total and deterministic' (their statements: YtlmljommgmbckaaTotals.lean).
  GIVEN WITH THE SEED: the statements are not yours to turn. If you find one false, say at which input.
  Laid BY PROGRAM, IN A SANDBOX (cutbox-rows.mjs): the forced cells as the released guide's own fill.sh prints them over the translation 2e446ce379992e5f… (all of the seat's roots in one cut). By AI agents, Wed Nov 11 2026. No macro, syntax, notation, axiom, sorry.
-/
import Derived.Test.YtlmljommgmbckaaChecked
import GoSem.Claim
import GoSem.ClaimJoined
import GoSem.ClaimMapViews
import Derived.JoinedTies
import Derived.KernelRfl
namespace Go.Proofs.Ytlmljommgmbckaa
/- THE CELL 'sum', in the pinned program and in every row, IS THE sha256 OF THE DUMP (.gsa) THAT YtlmljommgmbckaaProg.lean LOADS. Nothing in Lean hashes anything: it is a label: what it is worth is what the hold of that sum in a sandbox is worth. -/
noncomputable def Try.pinned : Pinned := { name := "ytlmljommgmbckaa", sum := "2e446ce379992e5fb0d411f9d3d3c8869984d28ff1d8b8516993f53c38a7708b", checked := Try.checked }
namespace Rows
def none {H : Type} : Left H := { results := [], args := [] }

/-- 'thunkmilllaw21.HeapHeads': WHATEVER THE INPUT: true; the input reads as it did. -/
def heapHeadsSpec : ChangeSpec := { name := "heapHeads", fn := fun _ => fun
  | [d1, d2, d3, d4, d5, d6] => { results := [.lit (.bool true)], args := [d1, d2, d3, d4, d5, d6] }
  | _ => none }
def heapHeadsRow : OpenClaim := { program := "ytlmljommgmbckaa", sum := "2e446ce379992e5fb0d411f9d3d3c8869984d28ff1d8b8516993f53c38a7708b", func := "thunkmill/thunkmilllaw21.HeapHeads", spec := "heapHeads", unfollowed := true, recurses := true, apart := false }
def HeapHeadsSaid : Prop := heapHeadsRow.holds Try.pinned (OpenSpec.ofChange heapHeadsSpec)

/-- ITS FALSE NEIGHBOUR: 'it returns false'. Refute it at one input. -/
def heapHeadsWrong : ChangeSpec := { name := "heapHeads", fn := fun _ => fun
  | [d1, d2, d3, d4, d5, d6] => { results := [.lit (.bool false)], args := [d1, d2, d3, d4, d5, d6] }
  | _ => none }
def HeapHeadsWrongFalsely : Prop := heapHeadsRow.holds Try.pinned (OpenSpec.ofChange heapHeadsWrong)

/-- 'thunkmilllaw21.HeapPuts': WHATEVER THE INPUT: true; the input reads as it did. -/
def heapPutsSpec : ChangeSpec := { name := "heapPuts", fn := fun _ => fun
  | [d1, d2, d3, d4] => { results := [.lit (.bool true)], args := [d1, d2, d3, d4] }
  | _ => none }
def heapPutsRow : OpenClaim := { program := "ytlmljommgmbckaa", sum := "2e446ce379992e5fb0d411f9d3d3c8869984d28ff1d8b8516993f53c38a7708b", func := "thunkmill/thunkmilllaw21.HeapPuts", spec := "heapPuts", unfollowed := true, recurses := true, apart := false }
def HeapPutsSaid : Prop := heapPutsRow.holds Try.pinned (OpenSpec.ofChange heapPutsSpec)

/-- ITS FALSE NEIGHBOUR: 'it returns false'. Refute it at one input. -/
def heapPutsWrong : ChangeSpec := { name := "heapPuts", fn := fun _ => fun
  | [d1, d2, d3, d4] => { results := [.lit (.bool false)], args := [d1, d2, d3, d4] }
  | _ => none }
def HeapPutsWrongFalsely : Prop := heapPutsRow.holds Try.pinned (OpenSpec.ofChange heapPutsWrong)

/-- 'thunkmilllaw21.HeapSound': WHATEVER THE INPUT: true; the input reads as it did. -/
def heapSoundSpec : ChangeSpec := { name := "heapSound", fn := fun _ => fun
  | [d1, d2, d3, d4] => { results := [.lit (.bool true)], args := [d1, d2, d3, d4] }
  | _ => none }
def heapSoundRow : OpenClaim := { program := "ytlmljommgmbckaa", sum := "2e446ce379992e5fb0d411f9d3d3c8869984d28ff1d8b8516993f53c38a7708b", func := "thunkmill/thunkmilllaw21.HeapSound", spec := "heapSound", unfollowed := true, recurses := true, apart := false }
def HeapSoundSaid : Prop := heapSoundRow.holds Try.pinned (OpenSpec.ofChange heapSoundSpec)

/-- ITS FALSE NEIGHBOUR: 'it returns false'. Refute it at one input. -/
def heapSoundWrong : ChangeSpec := { name := "heapSound", fn := fun _ => fun
  | [d1, d2, d3, d4] => { results := [.lit (.bool false)], args := [d1, d2, d3, d4] }
  | _ => none }
def HeapSoundWrongFalsely : Prop := heapSoundRow.holds Try.pinned (OpenSpec.ofChange heapSoundWrong)

/-- 'thunkmilllaw21.HeapNames': WHATEVER THE INPUT: true; the input reads as it did. -/
def heapNamesSpec : ChangeSpec := { name := "heapNames", fn := fun _ => fun
  | [] => { results := [.lit (.bool true)], args := [] }
  | _ => none }
def heapNamesRow : OpenClaim := { program := "ytlmljommgmbckaa", sum := "2e446ce379992e5fb0d411f9d3d3c8869984d28ff1d8b8516993f53c38a7708b", func := "thunkmill/thunkmilllaw21.HeapNames", spec := "heapNames", unfollowed := true, recurses := true, apart := false }
def HeapNamesSaid : Prop := heapNamesRow.holds Try.pinned (OpenSpec.ofChange heapNamesSpec)

/-- ITS FALSE NEIGHBOUR: 'it returns false'. Refute it at one input. -/
def heapNamesWrong : ChangeSpec := { name := "heapNames", fn := fun _ => fun
  | [] => { results := [.lit (.bool false)], args := [] }
  | _ => none }
def HeapNamesWrongFalsely : Prop := heapNamesRow.holds Try.pinned (OpenSpec.ofChange heapNamesWrong)

/-- 'thunkmilllaw21.HeapCounts': WHATEVER THE INPUT: true; the input reads as it did. -/
def heapCountsSpec : ChangeSpec := { name := "heapCounts", fn := fun _ => fun
  | [d1, d2, d3, d4, d5] => { results := [.lit (.bool true)], args := [d1, d2, d3, d4, d5] }
  | _ => none }
def heapCountsRow : OpenClaim := { program := "ytlmljommgmbckaa", sum := "2e446ce379992e5fb0d411f9d3d3c8869984d28ff1d8b8516993f53c38a7708b", func := "thunkmill/thunkmilllaw21.HeapCounts", spec := "heapCounts", unfollowed := true, recurses := true, apart := false }
def HeapCountsSaid : Prop := heapCountsRow.holds Try.pinned (OpenSpec.ofChange heapCountsSpec)

/-- ITS FALSE NEIGHBOUR: 'it returns false'. Refute it at one input. -/
def heapCountsWrong : ChangeSpec := { name := "heapCounts", fn := fun _ => fun
  | [d1, d2, d3, d4, d5] => { results := [.lit (.bool false)], args := [d1, d2, d3, d4, d5] }
  | _ => none }
def HeapCountsWrongFalsely : Prop := heapCountsRow.holds Try.pinned (OpenSpec.ofChange heapCountsWrong)

/-- 'thunkmilllaw21.HeapNil': WHATEVER THE INPUT: true; the input reads as it did. -/
def heapNilSpec : ChangeSpec := { name := "heapNil", fn := fun _ => fun
  | [d] => { results := [.lit (.bool true)], args := [d] }
  | _ => none }
def heapNilRow : OpenClaim := { program := "ytlmljommgmbckaa", sum := "2e446ce379992e5fb0d411f9d3d3c8869984d28ff1d8b8516993f53c38a7708b", func := "thunkmill/thunkmilllaw21.HeapNil", spec := "heapNil", unfollowed := true, recurses := true, apart := false }
def HeapNilSaid : Prop := heapNilRow.holds Try.pinned (OpenSpec.ofChange heapNilSpec)

/-- ITS FALSE NEIGHBOUR: 'it returns false'. Refute it at one input. -/
def heapNilWrong : ChangeSpec := { name := "heapNil", fn := fun _ => fun
  | [d] => { results := [.lit (.bool false)], args := [d] }
  | _ => none }
def HeapNilWrongFalsely : Prop := heapNilRow.holds Try.pinned (OpenSpec.ofChange heapNilWrong)

/- THE SECOND FORM. 'bulk': how many values and letters a reading holds, each counted each time it is reached (what is shared counts as often as it is met; a slice's spare places count too). A statement '..UptoSaid' is the law's where the arguments, and the package variables that the reading takes, are together of bulk at most 1048576: NARROWER than '..Said'. Prove '..Said' where nothing that the law and all that it calls make is longer than what came in: it says more and counts as full. Else prove '..UptoSaid'. A law counts once. -/
mutual
def uptoBulk {H : Type} : DataW H → Nat
  | .lit (.string bytes) => bytes.length + 1
  | .lit _ => 1
  | .nil => 1
  | .ptr d => uptoBulk d + 1
  | .slice elems spare => uptoBulkAll elems + uptoBulkAll spare + 1
  | .agg parts => uptoBulkAll parts + 1
  | .iface _ d => uptoBulk d + 1
  | .map entries => uptoBulkEntries entries + 1
  | .held _ => 1
def uptoBulkAll {H : Type} : List (DataW H) → Nat
  | [] => 0
  | d :: r => uptoBulk d + uptoBulkAll r
def uptoBulkEntries {H : Type} : List (Lit × DataW H) → Nat
  | [] => 0
  | x :: r => uptoBulkEntry x + uptoBulkEntries r
def uptoBulkEntry {H : Type} : Lit × DataW H → Nat
  | (.string bytes, d) => bytes.length + uptoBulk d + 1
  | (_, d) => uptoBulk d + 1
 end
def uptoSmall : (H : Type) → List (DataW H) → Bool := fun _ ds => decide (uptoBulkAll ds ≤ 1048576)
def OpenSpec.upto (s : _root_.Go.ChangeSpec) : _root_.Go.OpenSpec := { _root_.Go.OpenSpec.ofChange s with cond := some uptoSmall }

/-- 'thunkmilllaw21.HeapHeads', WHERE WHAT IT READS IS OF BULK AT MOST 1048576: true; the input reads as it did. -/
def heapHeadsUptoRow : OpenClaim := { program := "ytlmljommgmbckaa", sum := "2e446ce379992e5fb0d411f9d3d3c8869984d28ff1d8b8516993f53c38a7708b", func := "thunkmill/thunkmilllaw21.HeapHeads", spec := "heapHeads", unfollowed := true, recurses := true, apart := false, narrowed := true }
def HeapHeadsUptoSaid : Prop := heapHeadsUptoRow.holds Try.pinned (OpenSpec.upto heapHeadsSpec)

/-- 'thunkmilllaw21.HeapPuts', WHERE WHAT IT READS IS OF BULK AT MOST 1048576: true; the input reads as it did. -/
def heapPutsUptoRow : OpenClaim := { program := "ytlmljommgmbckaa", sum := "2e446ce379992e5fb0d411f9d3d3c8869984d28ff1d8b8516993f53c38a7708b", func := "thunkmill/thunkmilllaw21.HeapPuts", spec := "heapPuts", unfollowed := true, recurses := true, apart := false, narrowed := true }
def HeapPutsUptoSaid : Prop := heapPutsUptoRow.holds Try.pinned (OpenSpec.upto heapPutsSpec)

/-- 'thunkmilllaw21.HeapSound', WHERE WHAT IT READS IS OF BULK AT MOST 1048576: true; the input reads as it did. -/
def heapSoundUptoRow : OpenClaim := { program := "ytlmljommgmbckaa", sum := "2e446ce379992e5fb0d411f9d3d3c8869984d28ff1d8b8516993f53c38a7708b", func := "thunkmill/thunkmilllaw21.HeapSound", spec := "heapSound", unfollowed := true, recurses := true, apart := false, narrowed := true }
def HeapSoundUptoSaid : Prop := heapSoundUptoRow.holds Try.pinned (OpenSpec.upto heapSoundSpec)

/-- 'thunkmilllaw21.HeapNames', WHERE WHAT IT READS IS OF BULK AT MOST 1048576: true; the input reads as it did. -/
def heapNamesUptoRow : OpenClaim := { program := "ytlmljommgmbckaa", sum := "2e446ce379992e5fb0d411f9d3d3c8869984d28ff1d8b8516993f53c38a7708b", func := "thunkmill/thunkmilllaw21.HeapNames", spec := "heapNames", unfollowed := true, recurses := true, apart := false, narrowed := true }
def HeapNamesUptoSaid : Prop := heapNamesUptoRow.holds Try.pinned (OpenSpec.upto heapNamesSpec)

/-- 'thunkmilllaw21.HeapCounts', WHERE WHAT IT READS IS OF BULK AT MOST 1048576: true; the input reads as it did. -/
def heapCountsUptoRow : OpenClaim := { program := "ytlmljommgmbckaa", sum := "2e446ce379992e5fb0d411f9d3d3c8869984d28ff1d8b8516993f53c38a7708b", func := "thunkmill/thunkmilllaw21.HeapCounts", spec := "heapCounts", unfollowed := true, recurses := true, apart := false, narrowed := true }
def HeapCountsUptoSaid : Prop := heapCountsUptoRow.holds Try.pinned (OpenSpec.upto heapCountsSpec)

/-- 'thunkmilllaw21.HeapNil', WHERE WHAT IT READS IS OF BULK AT MOST 1048576: true; the input reads as it did. -/
def heapNilUptoRow : OpenClaim := { program := "ytlmljommgmbckaa", sum := "2e446ce379992e5fb0d411f9d3d3c8869984d28ff1d8b8516993f53c38a7708b", func := "thunkmill/thunkmilllaw21.HeapNil", spec := "heapNil", unfollowed := true, recurses := true, apart := false, narrowed := true }
def HeapNilUptoSaid : Prop := heapNilUptoRow.holds Try.pinned (OpenSpec.upto heapNilSpec)

end Rows
end Go.Proofs.Ytlmljommgmbckaa
