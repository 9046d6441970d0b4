/-
  DERIVED. GIVEN WITH THE SEED: THE CARDS: each row of YtnidkdjapieinaaGreatDoorRows.lean that lists a variable, with what it lists TIED to the program's text (the seventh form; the later family's looks); each row that meets fmt, with fmt's text TOLD by the authors' own Lean function (tested against real Go, not proved from fmt's source: count such statements apart). THE CARD IS WHAT COUNTS. Prove the row's statement (the work); the ties are given (YtnidkdjapieinaaGreatDoorTie.lean); close each card by the builder's one call (the guide's Derived/Test/ToyasCard.lean, 'card_holds'). Laid BY PROGRAM, IN A SANDBOX (cutbox-door.mjs). By AI agents, Wed Nov 11 2026. No macro, syntax, notation, axiom, sorry.
-/
import Derived.Test.YtnidkdjapieinaaGreatDoorRows
import GoSem.ClaimSeven
namespace Go.Proofs.YtnidkdjapieinaaGreatDoor
namespace Rows

/-- THE TIED CARD OF 'thunkmilllaw03.LayoutNil'. -/
def layoutNilCard : Claim7 := { stood := { row := layoutNilRow, standIns := [], harness := (true, "2f949e2c4894ffc0695e3ecc46192f1194144b2f21a42638c45ca9b28e5164dc"), looks := false }, kinds := [], alts := [], laidByText := true, laidKinds := [.data, .data, .data, .data, .pinned], laidTests := true, laidLooks := .later }
def LayoutNilCardSaid : Prop := Claim7.holds Tryz.pinned (.plain (OpenSpec.ofChange layoutNilSpec)) layoutNilCard

/-- THE SECOND FORM's CARD OF 'thunkmilllaw03.LayoutNil'. -/
def layoutNilUptoCard : Claim7 := { stood := { row := layoutNilUptoRow, standIns := [], harness := (true, "2f949e2c4894ffc0695e3ecc46192f1194144b2f21a42638c45ca9b28e5164dc"), looks := false }, kinds := [], alts := [], laidByText := true, laidKinds := [.data, .data, .data, .data, .pinned], laidTests := true, laidLooks := .later }
def LayoutNilUptoCardSaid : Prop := Claim7.holds Tryz.pinned (.plain (OpenSpec.upto layoutNilSpec)) layoutNilUptoCard
end Rows
end Go.Proofs.YtnidkdjapieinaaGreatDoor
