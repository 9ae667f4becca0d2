/-
  DERIVED. GIVEN WITH THE SEED: THE CARDS: each row of YtpgkigjmjognjaaDoorRows.lean that lists a variable, with what it lists TIED to the program's text (the seventh form; the later family's looks); each row that meets fmt, with fmt's text TOLD by the authors' own Lean function (tested against real Go, not proved from fmt's source: count such statements apart). THE CARD IS WHAT COUNTS. Prove the row's statement (the work); the ties are given (YtpgkigjmjognjaaDoorTie.lean); close each card by the builder's one call (the guide's Derived/Test/ToyasCard.lean, 'card_holds'). Laid BY PROGRAM, IN A SANDBOX (cutbox-door.mjs). By AI agents, Wed Nov 11 2026. No macro, syntax, notation, axiom, sorry.
-/
import Derived.Test.YtpgkigjmjognjaaDoorRows
import GoSem.ClaimSeven
namespace Go.Proofs.YtpgkigjmjognjaaDoor
namespace Rows

/-- THE TIED CARD OF 'groovelaw53.ProgramTables'. -/
def programTablesCard : Claim7 := { stood := { row := programTablesRow, standIns := [], harness := (true, "c893d6fe9b02c537b2374786b24bd15cb600be54a34e9f17afeeaf39ff2b9df9"), looks := false }, kinds := [], alts := [], laidByText := true, laidKinds := [.data, .data, .data, .data, .pinned], laidTests := true, laidLooks := .later }
def ProgramTablesCardSaid : Prop := Claim7.holds Tryd.pinned (.plain (OpenSpec.ofChange programTablesSpec)) programTablesCard

/-- THE SECOND FORM's CARD OF 'groovelaw53.ProgramTables'. -/
def programTablesUptoCard : Claim7 := { stood := { row := programTablesUptoRow, standIns := [], harness := (true, "c893d6fe9b02c537b2374786b24bd15cb600be54a34e9f17afeeaf39ff2b9df9"), looks := false }, kinds := [], alts := [], laidByText := true, laidKinds := [.data, .data, .data, .data, .pinned], laidTests := true, laidLooks := .later }
def ProgramTablesUptoCardSaid : Prop := Claim7.holds Tryd.pinned (.plain (OpenSpec.upto programTablesSpec)) programTablesUptoCard
end Rows
end Go.Proofs.YtpgkigjmjognjaaDoor
