/-
  DERIVED. GIVEN WITH THE SEED: THE CARDS: each row of YtpndkbhmngcmfaaGreatDoorRows.lean that lists a variable, with what it lists TIED to the program's text (the seventh form; the later family's looks); each row that meets fmt, with fmt's text TOLD by the authors' own Lean function (tested against real Go, not proved from fmt's source: count such statements apart). THE CARD IS WHAT COUNTS. Prove the row's statement (the work); the ties are given (YtpndkbhmngcmfaaGreatDoorTie.lean); close each card by the builder's one call (the guide's Derived/Test/ToyasCard.lean, 'card_holds'). Laid BY PROGRAM, IN A SANDBOX (cutbox-door.mjs). By AI agents, Wed Nov 11 2026. No macro, syntax, notation, axiom, sorry.
-/
import Derived.Test.YtpndkbhmngcmfaaGreatDoorRows
import GoSem.ClaimSeven
namespace Go.Proofs.YtpndkbhmngcmfaaGreatDoor
namespace Rows

/-- THE TIED CARD OF 'thicketlaw26.ShellJoins'. -/
def shellJoinsCard : Claim7 := { stood := { row := shellJoinsRow, standIns := [], harness := (true, "264e3f4e80df961e0b3b63596259f9b080096f63e045913e2444f7f7dbd4147e"), looks := true }, kinds := [], alts := [], laidByText := true, laidKinds := [.data, .data, .data], laidTests := true, laidLooks := .later }
def ShellJoinsCardSaid : Prop := Claim7.holds Tryz.pinned (.plain (OpenSpec.ofChange shellJoinsSpec)) shellJoinsCard

/-- THE TIED CARD OF 'thicketlaw26.ShellLimits'. -/
def shellLimitsCard : Claim7 := { stood := { row := shellLimitsRow, standIns := [], harness := (true, "264e3f4e80df961e0b3b63596259f9b080096f63e045913e2444f7f7dbd4147e"), looks := true }, kinds := [], alts := [], laidByText := true, laidKinds := [.data, .data, .data], laidTests := true, laidLooks := .later }
def ShellLimitsCardSaid : Prop := Claim7.holds Tryz.pinned (.plain (OpenSpec.ofChange shellLimitsSpec)) shellLimitsCard

/-- THE TIED CARD OF 'thicketlaw26.ShellOrders'. -/
def shellOrdersCard : Claim7 := { stood := { row := shellOrdersRow, standIns := [], harness := (true, "264e3f4e80df961e0b3b63596259f9b080096f63e045913e2444f7f7dbd4147e"), looks := true }, kinds := [], alts := [], laidByText := true, laidKinds := [.data, .data, .data], laidTests := true, laidLooks := .later }
def ShellOrdersCardSaid : Prop := Claim7.holds Tryz.pinned (.plain (OpenSpec.ofChange shellOrdersSpec)) shellOrdersCard

/-- THE SECOND FORM's CARD OF 'thicketlaw26.ShellJoins'. -/
def shellJoinsUptoCard : Claim7 := { stood := { row := shellJoinsUptoRow, standIns := [], harness := (true, "264e3f4e80df961e0b3b63596259f9b080096f63e045913e2444f7f7dbd4147e"), looks := true }, kinds := [], alts := [], laidByText := true, laidKinds := [.data, .data, .data], laidTests := true, laidLooks := .later }
def ShellJoinsUptoCardSaid : Prop := Claim7.holds Tryz.pinned (.plain (OpenSpec.upto shellJoinsSpec)) shellJoinsUptoCard

/-- THE SECOND FORM's CARD OF 'thicketlaw26.ShellLimits'. -/
def shellLimitsUptoCard : Claim7 := { stood := { row := shellLimitsUptoRow, standIns := [], harness := (true, "264e3f4e80df961e0b3b63596259f9b080096f63e045913e2444f7f7dbd4147e"), looks := true }, kinds := [], alts := [], laidByText := true, laidKinds := [.data, .data, .data], laidTests := true, laidLooks := .later }
def ShellLimitsUptoCardSaid : Prop := Claim7.holds Tryz.pinned (.plain (OpenSpec.upto shellLimitsSpec)) shellLimitsUptoCard

/-- THE SECOND FORM's CARD OF 'thicketlaw26.ShellOrders'. -/
def shellOrdersUptoCard : Claim7 := { stood := { row := shellOrdersUptoRow, standIns := [], harness := (true, "264e3f4e80df961e0b3b63596259f9b080096f63e045913e2444f7f7dbd4147e"), looks := true }, kinds := [], alts := [], laidByText := true, laidKinds := [.data, .data, .data], laidTests := true, laidLooks := .later }
def ShellOrdersUptoCardSaid : Prop := Claim7.holds Tryz.pinned (.plain (OpenSpec.upto shellOrdersSpec)) shellOrdersUptoCard
end Rows
end Go.Proofs.YtpndkbhmngcmfaaGreatDoor
