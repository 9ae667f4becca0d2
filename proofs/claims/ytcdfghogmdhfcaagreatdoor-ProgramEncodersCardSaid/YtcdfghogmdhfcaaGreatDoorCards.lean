/-
  DERIVED. GIVEN WITH THE SEED: THE CARDS: each row of YtcdfghogmdhfcaaGreatDoorRows.lean that lists a variable, with what it lists TIED to the program's text (the seventh form; the later family's looks); each row that meets fmt, with fmt's text TOLD by the authors' own Lean function (tested against real Go, not proved from fmt's source: count such statements apart). THE CARD IS WHAT COUNTS. Prove the row's statement (the work); the ties are given (YtcdfghogmdhfcaaGreatDoorTie.lean); close each card by the builder's one call (the guide's Derived/Test/ToyasCard.lean, 'card_holds'). Laid BY PROGRAM, IN A SANDBOX (cutbox-door.mjs). By AI agents, Wed Nov 11 2026. No macro, syntax, notation, axiom, sorry.
-/
import Derived.Test.YtcdfghogmdhfcaaGreatDoorRows
import GoSem.ClaimSeven
namespace Go.Proofs.YtcdfghogmdhfcaaGreatDoor
namespace Rows

/-- THE TIED CARD OF 'groovelaw53.ProgramEncoders'. -/
def programEncodersCard : Claim7 := { stood := { row := programEncodersRow, standIns := [], harness := (true, "3314532298ab68fc42694054783a2a613341bd7fc549642067ae7612de86faf4"), looks := false }, kinds := [], alts := [], laidByText := true, laidKinds := [.data, .data, .data, .data, .pinned], laidTests := true, laidLooks := .later }
def ProgramEncodersCardSaid : Prop := Claim7.holds Tryz.pinned (.plain (OpenSpec.ofChange programEncodersSpec)) programEncodersCard

/-- THE SECOND FORM's CARD OF 'groovelaw53.ProgramEncoders'. -/
def programEncodersUptoCard : Claim7 := { stood := { row := programEncodersUptoRow, standIns := [], harness := (true, "3314532298ab68fc42694054783a2a613341bd7fc549642067ae7612de86faf4"), looks := false }, kinds := [], alts := [], laidByText := true, laidKinds := [.data, .data, .data, .data, .pinned], laidTests := true, laidLooks := .later }
def ProgramEncodersUptoCardSaid : Prop := Claim7.holds Tryz.pinned (.plain (OpenSpec.upto programEncodersSpec)) programEncodersUptoCard
end Rows
end Go.Proofs.YtcdfghogmdhfcaaGreatDoor
