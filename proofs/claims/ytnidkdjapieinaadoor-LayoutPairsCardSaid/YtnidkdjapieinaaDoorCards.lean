/-
  DERIVED. GIVEN WITH THE SEED: THE CARDS: each row of YtnidkdjapieinaaDoorRows.lean that lists a variable, with what it lists TIED to the program's text (the seventh form; the later family's looks); each row that meets fmt, with fmt's text TOLD by the authors' own Lean function (tested against real Go, not proved from fmt's source: count such statements apart). THE CARD IS WHAT COUNTS. Prove the row's statement (the work); the ties are given (YtnidkdjapieinaaDoorTie.lean); close each card by the builder's one call (the guide's Derived/Test/ToyasCard.lean, 'card_holds'). Laid BY PROGRAM, IN A SANDBOX (cutbox-door.mjs). By AI agents, Wed Nov 11 2026. No macro, syntax, notation, axiom, sorry.
-/
import Derived.Test.YtnidkdjapieinaaDoorRows
import GoSem.ClaimSeven
namespace Go.Proofs.YtnidkdjapieinaaDoor
namespace Rows

/-- THE TIED CARD OF 'thunkmilllaw03.LayoutNames'. -/
def layoutNamesCard : Claim7 := { stood := { row := layoutNamesRow, standIns := [], harness := (true, "b954a1fa0ff4b7f7e4fe572f78fdaa6fc07b851beb216b591beeb002015d671d"), looks := false }, kinds := [], alts := [], laidByText := true, laidKinds := [.data, .data, .data, .data, .pinned], laidTests := true, laidLooks := .later }
def LayoutNamesCardSaid : Prop := Claim7.holds Tryd.pinned (.plain (OpenSpec.ofChange layoutNamesSpec)) layoutNamesCard

/-- THE TIED CARD OF 'thunkmilllaw03.LayoutPairs'. -/
def layoutPairsCard : Claim7 := { stood := { row := layoutPairsRow, standIns := [], harness := (true, "b954a1fa0ff4b7f7e4fe572f78fdaa6fc07b851beb216b591beeb002015d671d"), looks := false }, kinds := [], alts := [], laidByText := true, laidKinds := [.data, .data, .data, .data, .pinned], laidTests := true, laidLooks := .later }
def LayoutPairsCardSaid : Prop := Claim7.holds Tryd.pinned (.plain (OpenSpec.ofChange layoutPairsSpec)) layoutPairsCard

/-- THE SECOND FORM's CARD OF 'thunkmilllaw03.LayoutNames'. -/
def layoutNamesUptoCard : Claim7 := { stood := { row := layoutNamesUptoRow, standIns := [], harness := (true, "b954a1fa0ff4b7f7e4fe572f78fdaa6fc07b851beb216b591beeb002015d671d"), looks := false }, kinds := [], alts := [], laidByText := true, laidKinds := [.data, .data, .data, .data, .pinned], laidTests := true, laidLooks := .later }
def LayoutNamesUptoCardSaid : Prop := Claim7.holds Tryd.pinned (.plain (OpenSpec.upto layoutNamesSpec)) layoutNamesUptoCard

/-- THE SECOND FORM's CARD OF 'thunkmilllaw03.LayoutPairs'. -/
def layoutPairsUptoCard : Claim7 := { stood := { row := layoutPairsUptoRow, standIns := [], harness := (true, "b954a1fa0ff4b7f7e4fe572f78fdaa6fc07b851beb216b591beeb002015d671d"), looks := false }, kinds := [], alts := [], laidByText := true, laidKinds := [.data, .data, .data, .data, .pinned], laidTests := true, laidLooks := .later }
def LayoutPairsUptoCardSaid : Prop := Claim7.holds Tryd.pinned (.plain (OpenSpec.upto layoutPairsSpec)) layoutPairsUptoCard
end Rows
end Go.Proofs.YtnidkdjapieinaaDoor
