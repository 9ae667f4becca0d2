/-
  DERIVED. GIVEN WITH THE SEED: THE CARDS: each row of YtdfkcfmbiofggaaDoorRows.lean that lists a variable, with what it lists TIED to the program's text (the seventh form; the later family's looks); each row that meets fmt, with fmt's text TOLD by the authors' own Lean function (tested against real Go, not proved from fmt's source: count such statements apart). THE CARD IS WHAT COUNTS. Prove the row's statement (the work); the ties are given (YtdfkcfmbiofggaaDoorTie.lean); close each card by the builder's one call (the guide's Derived/Test/ToyasCard.lean, 'card_holds'). Laid BY PROGRAM, IN A SANDBOX (cutbox-door.mjs). By AI agents, Wed Nov 11 2026. No macro, syntax, notation, axiom, sorry.
-/
import Derived.Test.YtdfkcfmbiofggaaDoorRows
import GoSem.ClaimSeven
namespace Go.Proofs.YtdfkcfmbiofggaaDoor
namespace Rows

/-- THE TIED CARD OF 'groovelaw53.ProgramSteps'. -/
def programStepsCard : Claim7 := { stood := { row := programStepsRow, standIns := [], harness := (true, "0439964113ee49ba9993e13708d400361c7dc133e581bcb2de39c6eac5a19871"), looks := false }, kinds := [], alts := [], laidByText := true, laidKinds := [.data, .data, .data, .data, .pinned], laidTests := true, laidLooks := .later }
def ProgramStepsCardSaid : Prop := Claim7.holds Tryd.pinned (.plain (OpenSpec.ofChange programStepsSpec)) programStepsCard

/-- THE TIED CARD OF 'groovelaw53.ProgramAgrees'. -/
def programAgreesCard : Claim7 := { stood := { row := programAgreesRow, standIns := [], harness := (true, "0439964113ee49ba9993e13708d400361c7dc133e581bcb2de39c6eac5a19871"), looks := false }, kinds := [], alts := [], laidByText := true, laidKinds := [.data, .data, .data, .data, .pinned], laidTests := true, laidLooks := .later }
def ProgramAgreesCardSaid : Prop := Claim7.holds Tryd.pinned (.plain (OpenSpec.ofChange programAgreesSpec)) programAgreesCard

/-- THE SECOND FORM's CARD OF 'groovelaw53.ProgramSteps'. -/
def programStepsUptoCard : Claim7 := { stood := { row := programStepsUptoRow, standIns := [], harness := (true, "0439964113ee49ba9993e13708d400361c7dc133e581bcb2de39c6eac5a19871"), looks := false }, kinds := [], alts := [], laidByText := true, laidKinds := [.data, .data, .data, .data, .pinned], laidTests := true, laidLooks := .later }
def ProgramStepsUptoCardSaid : Prop := Claim7.holds Tryd.pinned (.plain (OpenSpec.upto programStepsSpec)) programStepsUptoCard

/-- THE SECOND FORM's CARD OF 'groovelaw53.ProgramAgrees'. -/
def programAgreesUptoCard : Claim7 := { stood := { row := programAgreesUptoRow, standIns := [], harness := (true, "0439964113ee49ba9993e13708d400361c7dc133e581bcb2de39c6eac5a19871"), looks := false }, kinds := [], alts := [], laidByText := true, laidKinds := [.data, .data, .data, .data, .pinned], laidTests := true, laidLooks := .later }
def ProgramAgreesUptoCardSaid : Prop := Claim7.holds Tryd.pinned (.plain (OpenSpec.upto programAgreesSpec)) programAgreesUptoCard
end Rows
end Go.Proofs.YtdfkcfmbiofggaaDoor
