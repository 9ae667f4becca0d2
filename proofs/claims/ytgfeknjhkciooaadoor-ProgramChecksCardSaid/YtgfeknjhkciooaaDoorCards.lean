/-
  DERIVED. GIVEN WITH THE SEED: THE CARDS: each row of YtgfeknjhkciooaaDoorRows.lean that lists a variable, with what it lists TIED to the program's text (the seventh form; the later family's looks); each row that meets fmt, with fmt's text TOLD by the authors' own Lean function (tested against real Go, not proved from fmt's source: count such statements apart). THE CARD IS WHAT COUNTS. Prove the row's statement (the work); the ties are given (YtgfeknjhkciooaaDoorTie.lean); close each card by the builder's one call (the guide's Derived/Test/ToyasCard.lean, 'card_holds'). Laid BY PROGRAM, IN A SANDBOX (cutbox-door.mjs). By AI agents, Wed Nov 11 2026. No macro, syntax, notation, axiom, sorry.
-/
import Derived.Test.YtgfeknjhkciooaaDoorRows
import GoSem.ClaimSeven
namespace Go.Proofs.YtgfeknjhkciooaaDoor
namespace Rows

/-- THE TIED CARD OF 'groovelaw53.ProgramChecks'. -/
def programChecksCard : Claim7 := { stood := { row := programChecksRow, standIns := [], harness := (true, "97ff0ec0a62975df517226589790aac3aa25abab71b5a732343c8daf8b581f34"), looks := true }, kinds := [], alts := [], laidByText := true, laidKinds := [.data, .data, .data, .data, .pinned], laidTests := true, laidLooks := .later }
def ProgramChecksCardSaid : Prop := Claim7.holds Tryd.pinned (.plain (OpenSpec.ofChange programChecksSpec)) programChecksCard

/-- THE TIED CARD OF 'groovelaw53.ProgramReduces'. -/
def programReducesCard : Claim7 := { stood := { row := programReducesRow, standIns := [], harness := (true, "97ff0ec0a62975df517226589790aac3aa25abab71b5a732343c8daf8b581f34"), looks := true }, kinds := [], alts := [], laidByText := true, laidKinds := [.data, .data, .data, .data, .pinned], laidTests := true, laidLooks := .later }
def ProgramReducesCardSaid : Prop := Claim7.holds Tryd.pinned (.plain (OpenSpec.ofChange programReducesSpec)) programReducesCard

/-- THE TIED CARD OF 'groovelaw53.ProgramBits'. -/
def programBitsCard : Claim7 := { stood := { row := programBitsRow, standIns := [], harness := (true, "97ff0ec0a62975df517226589790aac3aa25abab71b5a732343c8daf8b581f34"), looks := true }, kinds := [], alts := [], laidByText := true, laidKinds := [.data, .data, .data, .data, .pinned], laidTests := true, laidLooks := .later }
def ProgramBitsCardSaid : Prop := Claim7.holds Tryd.pinned (.plain (OpenSpec.ofChange programBitsSpec)) programBitsCard

/-- THE TIED CARD OF 'groovelaw53.ProgramTables'. -/
def programTablesCard : Claim7 := { stood := { row := programTablesRow, standIns := [], harness := (true, "97ff0ec0a62975df517226589790aac3aa25abab71b5a732343c8daf8b581f34"), looks := true }, kinds := [], alts := [], laidByText := true, laidKinds := [.data, .data, .data, .data, .pinned], laidTests := true, laidLooks := .later }
def ProgramTablesCardSaid : Prop := Claim7.holds Tryd.pinned (.plain (OpenSpec.ofChange programTablesSpec)) programTablesCard

/-- THE TIED CARD OF 'groovelaw53.ProgramSteps'. -/
def programStepsCard : Claim7 := { stood := { row := programStepsRow, standIns := [], harness := (true, "97ff0ec0a62975df517226589790aac3aa25abab71b5a732343c8daf8b581f34"), looks := true }, kinds := [], alts := [], laidByText := true, laidKinds := [.data, .data, .data, .data, .pinned], laidTests := true, laidLooks := .later }
def ProgramStepsCardSaid : Prop := Claim7.holds Tryd.pinned (.plain (OpenSpec.ofChange programStepsSpec)) programStepsCard

/-- THE TIED CARD OF 'groovelaw53.ProgramAgrees'. -/
def programAgreesCard : Claim7 := { stood := { row := programAgreesRow, standIns := [], harness := (true, "97ff0ec0a62975df517226589790aac3aa25abab71b5a732343c8daf8b581f34"), looks := true }, kinds := [], alts := [], laidByText := true, laidKinds := [.data, .data, .data, .data, .pinned], laidTests := true, laidLooks := .later }
def ProgramAgreesCardSaid : Prop := Claim7.holds Tryd.pinned (.plain (OpenSpec.ofChange programAgreesSpec)) programAgreesCard

/-- THE TIED CARD OF 'groovelaw53.ProgramBack'. -/
def programBackCard : Claim7 := { stood := { row := programBackRow, standIns := [], harness := (true, "97ff0ec0a62975df517226589790aac3aa25abab71b5a732343c8daf8b581f34"), looks := true }, kinds := [], alts := [], laidByText := true, laidKinds := [.data, .data, .data, .data, .sentinel, .sentinel, .pinned], laidTests := true, laidLooks := .later }
def ProgramBackCardSaid : Prop := Claim7.holds Tryd.pinned (.plain (OpenSpec.ofChange programBackSpec)) programBackCard

/-- THE SECOND FORM's CARD OF 'groovelaw53.ProgramChecks'. -/
def programChecksUptoCard : Claim7 := { stood := { row := programChecksUptoRow, standIns := [], harness := (true, "97ff0ec0a62975df517226589790aac3aa25abab71b5a732343c8daf8b581f34"), looks := true }, kinds := [], alts := [], laidByText := true, laidKinds := [.data, .data, .data, .data, .pinned], laidTests := true, laidLooks := .later }
def ProgramChecksUptoCardSaid : Prop := Claim7.holds Tryd.pinned (.plain (OpenSpec.upto programChecksSpec)) programChecksUptoCard

/-- THE SECOND FORM's CARD OF 'groovelaw53.ProgramReduces'. -/
def programReducesUptoCard : Claim7 := { stood := { row := programReducesUptoRow, standIns := [], harness := (true, "97ff0ec0a62975df517226589790aac3aa25abab71b5a732343c8daf8b581f34"), looks := true }, kinds := [], alts := [], laidByText := true, laidKinds := [.data, .data, .data, .data, .pinned], laidTests := true, laidLooks := .later }
def ProgramReducesUptoCardSaid : Prop := Claim7.holds Tryd.pinned (.plain (OpenSpec.upto programReducesSpec)) programReducesUptoCard

/-- THE SECOND FORM's CARD OF 'groovelaw53.ProgramBits'. -/
def programBitsUptoCard : Claim7 := { stood := { row := programBitsUptoRow, standIns := [], harness := (true, "97ff0ec0a62975df517226589790aac3aa25abab71b5a732343c8daf8b581f34"), looks := true }, kinds := [], alts := [], laidByText := true, laidKinds := [.data, .data, .data, .data, .pinned], laidTests := true, laidLooks := .later }
def ProgramBitsUptoCardSaid : Prop := Claim7.holds Tryd.pinned (.plain (OpenSpec.upto programBitsSpec)) programBitsUptoCard

/-- THE SECOND FORM's CARD OF 'groovelaw53.ProgramTables'. -/
def programTablesUptoCard : Claim7 := { stood := { row := programTablesUptoRow, standIns := [], harness := (true, "97ff0ec0a62975df517226589790aac3aa25abab71b5a732343c8daf8b581f34"), looks := true }, kinds := [], alts := [], laidByText := true, laidKinds := [.data, .data, .data, .data, .pinned], laidTests := true, laidLooks := .later }
def ProgramTablesUptoCardSaid : Prop := Claim7.holds Tryd.pinned (.plain (OpenSpec.upto programTablesSpec)) programTablesUptoCard

/-- THE SECOND FORM's CARD OF 'groovelaw53.ProgramSteps'. -/
def programStepsUptoCard : Claim7 := { stood := { row := programStepsUptoRow, standIns := [], harness := (true, "97ff0ec0a62975df517226589790aac3aa25abab71b5a732343c8daf8b581f34"), looks := true }, kinds := [], alts := [], laidByText := true, laidKinds := [.data, .data, .data, .data, .pinned], laidTests := true, laidLooks := .later }
def ProgramStepsUptoCardSaid : Prop := Claim7.holds Tryd.pinned (.plain (OpenSpec.upto programStepsSpec)) programStepsUptoCard

/-- THE SECOND FORM's CARD OF 'groovelaw53.ProgramAgrees'. -/
def programAgreesUptoCard : Claim7 := { stood := { row := programAgreesUptoRow, standIns := [], harness := (true, "97ff0ec0a62975df517226589790aac3aa25abab71b5a732343c8daf8b581f34"), looks := true }, kinds := [], alts := [], laidByText := true, laidKinds := [.data, .data, .data, .data, .pinned], laidTests := true, laidLooks := .later }
def ProgramAgreesUptoCardSaid : Prop := Claim7.holds Tryd.pinned (.plain (OpenSpec.upto programAgreesSpec)) programAgreesUptoCard

/-- THE SECOND FORM's CARD OF 'groovelaw53.ProgramBack'. -/
def programBackUptoCard : Claim7 := { stood := { row := programBackUptoRow, standIns := [], harness := (true, "97ff0ec0a62975df517226589790aac3aa25abab71b5a732343c8daf8b581f34"), looks := true }, kinds := [], alts := [], laidByText := true, laidKinds := [.data, .data, .data, .data, .sentinel, .sentinel, .pinned], laidTests := true, laidLooks := .later }
def ProgramBackUptoCardSaid : Prop := Claim7.holds Tryd.pinned (.plain (OpenSpec.upto programBackSpec)) programBackUptoCard
end Rows
end Go.Proofs.YtgfeknjhkciooaaDoor
