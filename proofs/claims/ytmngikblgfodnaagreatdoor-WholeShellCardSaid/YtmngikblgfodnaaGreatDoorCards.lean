/-
  DERIVED. GIVEN WITH THE SEED: THE CARDS: each row of YtmngikblgfodnaaGreatDoorRows.lean that lists a variable, with what it lists TIED to the program's text (the seventh form; the later family's looks); each row that meets fmt, with fmt's text TOLD by the authors' own Lean function (tested against real Go, not proved from fmt's source: count such statements apart). THE CARD IS WHAT COUNTS. Prove the row's statement (the work); the ties are given (YtmngikblgfodnaaGreatDoorTie.lean); close each card by the builder's one call (the guide's Derived/Test/ToyasCard.lean, 'card_holds'). Laid BY PROGRAM, IN A SANDBOX (cutbox-door.mjs). By AI agents, Wed Nov 11 2026. No macro, syntax, notation, axiom, sorry.
-/
import Derived.Test.YtmngikblgfodnaaGreatDoorRows
import GoSem.ClaimSeven
namespace Go.Proofs.YtmngikblgfodnaaGreatDoor
namespace Rows

/-- THE TIED CARD OF 'thickettop.WholeShell'. -/
def wholeShellCard : Claim7 := { stood := { row := wholeShellRow, standIns := [], harness := (true, "2b27461d74c88e3871eb0aa7e0a200357108f28709a314fdcb7b668b3b0153e9"), looks := true }, kinds := [], alts := [], laidByText := true, laidKinds := [.data, .data, .data], laidTests := true, laidLooks := .later }
def WholeShellCardSaid : Prop := Claim7.holds Tryz.pinned (.plain (OpenSpec.ofChange wholeShellSpec)) wholeShellCard

/-- THE SECOND FORM's CARD OF 'thickettop.WholeShell'. -/
def wholeShellUptoCard : Claim7 := { stood := { row := wholeShellUptoRow, standIns := [], harness := (true, "2b27461d74c88e3871eb0aa7e0a200357108f28709a314fdcb7b668b3b0153e9"), looks := true }, kinds := [], alts := [], laidByText := true, laidKinds := [.data, .data, .data], laidTests := true, laidLooks := .later }
def WholeShellUptoCardSaid : Prop := Claim7.holds Tryz.pinned (.plain (OpenSpec.upto wholeShellSpec)) wholeShellUptoCard
end Rows
end Go.Proofs.YtmngikblgfodnaaGreatDoor
