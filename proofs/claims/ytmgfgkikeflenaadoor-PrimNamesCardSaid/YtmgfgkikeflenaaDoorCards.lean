/-
  DERIVED. GIVEN WITH THE SEED: THE CARDS: each row of YtmgfgkikeflenaaDoorRows.lean that lists a variable, with what it lists TIED to the program's text (the seventh form; the later family's looks); each row that meets fmt, with fmt's text TOLD by the authors' own Lean function (tested against real Go, not proved from fmt's source: count such statements apart). THE CARD IS WHAT COUNTS. Prove the row's statement (the work); the ties are given (YtmgfgkikeflenaaDoorTie.lean); close each card by the builder's one call (the guide's Derived/Test/ToyasCard.lean, 'card_holds'). Laid BY PROGRAM, IN A SANDBOX (cutbox-door.mjs). By AI agents, Wed Nov 11 2026. No macro, syntax, notation, axiom, sorry.
-/
import Derived.Test.YtmgfgkikeflenaaDoorRows
import GoSem.ClaimSeven
namespace Go.Proofs.YtmgfgkikeflenaaDoor
namespace Rows

/-- THE TIED CARD OF 'thunkmilllaw08.PrimNames'. -/
def primNamesCard : Claim7 := { stood := { row := primNamesRow, standIns := [], harness := (true, "d425473408c19e1b030507bc8ccb4ee5824f74bfc560bace6994afe4a54f4a4f"), looks := false }, kinds := [], alts := [], laidByText := true, laidKinds := [.data, .data, .data], laidTests := true, laidLooks := .later }
def PrimNamesCardSaid : Prop := Claim7.holds Tryd.pinned (.plain (OpenSpec.ofChange primNamesSpec)) primNamesCard

/-- THE TIED CARD OF 'thunkmilllaw08.PrimCalls'. -/
def primCallsCard : Claim7 := { stood := { row := primCallsRow, standIns := [], harness := (true, "d425473408c19e1b030507bc8ccb4ee5824f74bfc560bace6994afe4a54f4a4f"), looks := false }, kinds := [], alts := [], laidByText := true, laidKinds := [.data, .data, .data], laidTests := true, laidLooks := .later }
def PrimCallsCardSaid : Prop := Claim7.holds Tryd.pinned (.plain (OpenSpec.ofChange primCallsSpec)) primCallsCard

/-- THE SECOND FORM's CARD OF 'thunkmilllaw08.PrimNames'. -/
def primNamesUptoCard : Claim7 := { stood := { row := primNamesUptoRow, standIns := [], harness := (true, "d425473408c19e1b030507bc8ccb4ee5824f74bfc560bace6994afe4a54f4a4f"), looks := false }, kinds := [], alts := [], laidByText := true, laidKinds := [.data, .data, .data], laidTests := true, laidLooks := .later }
def PrimNamesUptoCardSaid : Prop := Claim7.holds Tryd.pinned (.plain (OpenSpec.upto primNamesSpec)) primNamesUptoCard

/-- THE SECOND FORM's CARD OF 'thunkmilllaw08.PrimCalls'. -/
def primCallsUptoCard : Claim7 := { stood := { row := primCallsUptoRow, standIns := [], harness := (true, "d425473408c19e1b030507bc8ccb4ee5824f74bfc560bace6994afe4a54f4a4f"), looks := false }, kinds := [], alts := [], laidByText := true, laidKinds := [.data, .data, .data], laidTests := true, laidLooks := .later }
def PrimCallsUptoCardSaid : Prop := Claim7.holds Tryd.pinned (.plain (OpenSpec.upto primCallsSpec)) primCallsUptoCard
end Rows
end Go.Proofs.YtmgfgkikeflenaaDoor
