/-
  DERIVED. GIVEN WITH THE SEED: THE CARDS: each row of YtbjlnllbcgghlaaDoorRows.lean that lists a variable, with what it lists TIED to the program's text (the seventh form; the later family's looks); each row that meets fmt, with fmt's text TOLD by the authors' own Lean function (tested against real Go, not proved from fmt's source: count such statements apart). THE CARD IS WHAT COUNTS. Prove the row's statement (the work); the ties are given (YtbjlnllbcgghlaaDoorTie.lean); close each card by the builder's one call (the guide's Derived/Test/ToyasCard.lean, 'card_holds'). Laid BY PROGRAM, IN A SANDBOX (cutbox-door.mjs). By AI agents, Wed Nov 11 2026. No macro, syntax, notation, axiom, sorry.
-/
import Derived.Test.YtbjlnllbcgghlaaDoorRows
import GoSem.ClaimSeven
namespace Go.Proofs.YtbjlnllbcgghlaaDoor
namespace Rows

/-- THE TIED CARD OF 'thunkmilllaw27.PlayerNames'. -/
def playerNamesCard : Claim7 := { stood := { row := playerNamesRow, standIns := [], harness := (true, "e83288f78cf45740773e053293255ffc54ffa915d3b70bb90529541cfd491dd4"), looks := true }, kinds := [], alts := [], laidByText := true, laidKinds := [.data, .data, .data, .data, .sentinel, .sentinel, .pinned], laidTests := true, laidLooks := .later }
def PlayerNamesCardSaid : Prop := Claim7.holds Tryd.pinned (.plain (OpenSpec.ofChange playerNamesSpec)) playerNamesCard

/-- THE TIED CARD OF 'thunkmilllaw27.PlayerCalls'. -/
def playerCallsCard : Claim7 := { stood := { row := playerCallsRow, standIns := [], harness := (true, "e83288f78cf45740773e053293255ffc54ffa915d3b70bb90529541cfd491dd4"), looks := true }, kinds := [], alts := [], laidByText := true, laidKinds := [.data, .data, .data, .data, .sentinel, .sentinel, .pinned], laidTests := true, laidLooks := .later }
def PlayerCallsCardSaid : Prop := Claim7.holds Tryd.pinned (.plain (OpenSpec.ofChange playerCallsSpec)) playerCallsCard

/-- THE TIED CARD OF 'thunkmilllaw27.PlayerBack'. -/
def playerBackCard : Claim7 := { stood := { row := playerBackRow, standIns := [], harness := (true, "e83288f78cf45740773e053293255ffc54ffa915d3b70bb90529541cfd491dd4"), looks := true }, kinds := [], alts := [], laidByText := true, laidKinds := [.data, .data, .data, .data, .sentinel, .sentinel, .pinned], laidTests := true, laidLooks := .later }
def PlayerBackCardSaid : Prop := Claim7.holds Tryd.pinned (.plain (OpenSpec.ofChange playerBackSpec)) playerBackCard

/-- THE SECOND FORM's CARD OF 'thunkmilllaw27.PlayerNames'. -/
def playerNamesUptoCard : Claim7 := { stood := { row := playerNamesUptoRow, standIns := [], harness := (true, "e83288f78cf45740773e053293255ffc54ffa915d3b70bb90529541cfd491dd4"), looks := true }, kinds := [], alts := [], laidByText := true, laidKinds := [.data, .data, .data, .data, .sentinel, .sentinel, .pinned], laidTests := true, laidLooks := .later }
def PlayerNamesUptoCardSaid : Prop := Claim7.holds Tryd.pinned (.plain (OpenSpec.upto playerNamesSpec)) playerNamesUptoCard

/-- THE SECOND FORM's CARD OF 'thunkmilllaw27.PlayerCalls'. -/
def playerCallsUptoCard : Claim7 := { stood := { row := playerCallsUptoRow, standIns := [], harness := (true, "e83288f78cf45740773e053293255ffc54ffa915d3b70bb90529541cfd491dd4"), looks := true }, kinds := [], alts := [], laidByText := true, laidKinds := [.data, .data, .data, .data, .sentinel, .sentinel, .pinned], laidTests := true, laidLooks := .later }
def PlayerCallsUptoCardSaid : Prop := Claim7.holds Tryd.pinned (.plain (OpenSpec.upto playerCallsSpec)) playerCallsUptoCard

/-- THE SECOND FORM's CARD OF 'thunkmilllaw27.PlayerBack'. -/
def playerBackUptoCard : Claim7 := { stood := { row := playerBackUptoRow, standIns := [], harness := (true, "e83288f78cf45740773e053293255ffc54ffa915d3b70bb90529541cfd491dd4"), looks := true }, kinds := [], alts := [], laidByText := true, laidKinds := [.data, .data, .data, .data, .sentinel, .sentinel, .pinned], laidTests := true, laidLooks := .later }
def PlayerBackUptoCardSaid : Prop := Claim7.holds Tryd.pinned (.plain (OpenSpec.upto playerBackSpec)) playerBackUptoCard
end Rows
end Go.Proofs.YtbjlnllbcgghlaaDoor
