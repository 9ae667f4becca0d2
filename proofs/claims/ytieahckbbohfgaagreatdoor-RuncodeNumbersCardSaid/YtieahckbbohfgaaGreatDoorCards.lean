/-
  DERIVED. GIVEN WITH THE SEED: THE CARDS: each row of YtieahckbbohfgaaGreatDoorRows.lean that lists a variable, with what it lists TIED to the program's text (the seventh form; the later family's looks); each row that meets fmt, with fmt's text TOLD by the authors' own Lean function (tested against real Go, not proved from fmt's source: count such statements apart). THE CARD IS WHAT COUNTS. Prove the row's statement (the work); the ties are given (YtieahckbbohfgaaGreatDoorTie.lean); close each card by the builder's one call (the guide's Derived/Test/ToyasCard.lean, 'card_holds'). Laid BY PROGRAM, IN A SANDBOX (cutbox-door.mjs). By AI agents, Wed Nov 11 2026. No macro, syntax, notation, axiom, sorry.
-/
import Derived.Test.YtieahckbbohfgaaGreatDoorRows
import GoSem.ClaimSeven
namespace Go.Proofs.YtieahckbbohfgaaGreatDoor
namespace Rows

/-- THE TIED CARD OF 'groovelaw42.RuncodeComplete'. -/
def runcodeCompleteCard : Claim7 := { stood := { row := runcodeCompleteRow, standIns := [], harness := (true, "e027d352e38e9a399e58a80af082bebf650486675f3e56f724e7cb05b79f7639"), looks := true }, kinds := [], alts := [], laidByText := true, laidKinds := [.data, .data, .data, .data, .pinned], laidTests := true, laidLooks := .later }
def RuncodeCompleteCardSaid : Prop := Claim7.holds Tryz.pinned (.plain (OpenSpec.ofChange runcodeCompleteSpec)) runcodeCompleteCard

/-- THE TIED CARD OF 'groovelaw42.RuncodeGolomb'. -/
def runcodeGolombCard : Claim7 := { stood := { row := runcodeGolombRow, standIns := [], harness := (true, "e027d352e38e9a399e58a80af082bebf650486675f3e56f724e7cb05b79f7639"), looks := true }, kinds := [], alts := [], laidByText := true, laidKinds := [.data, .data, .data, .data, .pinned], laidTests := true, laidLooks := .later }
def RuncodeGolombCardSaid : Prop := Claim7.holds Tryz.pinned (.plain (OpenSpec.ofChange runcodeGolombSpec)) runcodeGolombCard

/-- THE TIED CARD OF 'groovelaw42.RuncodeZeros'. -/
def runcodeZerosCard : Claim7 := { stood := { row := runcodeZerosRow, standIns := [], harness := (true, "e027d352e38e9a399e58a80af082bebf650486675f3e56f724e7cb05b79f7639"), looks := true }, kinds := [], alts := [], laidByText := true, laidKinds := [.data, .data, .data, .data, .pinned], laidTests := true, laidLooks := .later }
def RuncodeZerosCardSaid : Prop := Claim7.holds Tryz.pinned (.plain (OpenSpec.ofChange runcodeZerosSpec)) runcodeZerosCard

/-- THE TIED CARD OF 'groovelaw42.RuncodeGamma'. -/
def runcodeGammaCard : Claim7 := { stood := { row := runcodeGammaRow, standIns := [], harness := (true, "e027d352e38e9a399e58a80af082bebf650486675f3e56f724e7cb05b79f7639"), looks := true }, kinds := [], alts := [], laidByText := true, laidKinds := [.data, .data, .data, .data, .sentinel, .sentinel, .pinned], laidTests := true, laidLooks := .later }
def RuncodeGammaCardSaid : Prop := Claim7.holds Tryz.pinned (.plain (OpenSpec.ofChange runcodeGammaSpec)) runcodeGammaCard

/-- THE TIED CARD OF 'groovelaw42.RuncodeNumbers'. -/
def runcodeNumbersCard : Claim7 := { stood := { row := runcodeNumbersRow, standIns := [], harness := (true, "e027d352e38e9a399e58a80af082bebf650486675f3e56f724e7cb05b79f7639"), looks := true }, kinds := [], alts := [], laidByText := true, laidKinds := [.data, .data, .data, .data, .sentinel, .sentinel, .pinned], laidTests := true, laidLooks := .later }
def RuncodeNumbersCardSaid : Prop := Claim7.holds Tryz.pinned (.plain (OpenSpec.ofChange runcodeNumbersSpec)) runcodeNumbersCard

/-- THE SECOND FORM's CARD OF 'groovelaw42.RuncodeComplete'. -/
def runcodeCompleteUptoCard : Claim7 := { stood := { row := runcodeCompleteUptoRow, standIns := [], harness := (true, "e027d352e38e9a399e58a80af082bebf650486675f3e56f724e7cb05b79f7639"), looks := true }, kinds := [], alts := [], laidByText := true, laidKinds := [.data, .data, .data, .data, .pinned], laidTests := true, laidLooks := .later }
def RuncodeCompleteUptoCardSaid : Prop := Claim7.holds Tryz.pinned (.plain (OpenSpec.upto runcodeCompleteSpec)) runcodeCompleteUptoCard

/-- THE SECOND FORM's CARD OF 'groovelaw42.RuncodeGolomb'. -/
def runcodeGolombUptoCard : Claim7 := { stood := { row := runcodeGolombUptoRow, standIns := [], harness := (true, "e027d352e38e9a399e58a80af082bebf650486675f3e56f724e7cb05b79f7639"), looks := true }, kinds := [], alts := [], laidByText := true, laidKinds := [.data, .data, .data, .data, .pinned], laidTests := true, laidLooks := .later }
def RuncodeGolombUptoCardSaid : Prop := Claim7.holds Tryz.pinned (.plain (OpenSpec.upto runcodeGolombSpec)) runcodeGolombUptoCard

/-- THE SECOND FORM's CARD OF 'groovelaw42.RuncodeZeros'. -/
def runcodeZerosUptoCard : Claim7 := { stood := { row := runcodeZerosUptoRow, standIns := [], harness := (true, "e027d352e38e9a399e58a80af082bebf650486675f3e56f724e7cb05b79f7639"), looks := true }, kinds := [], alts := [], laidByText := true, laidKinds := [.data, .data, .data, .data, .pinned], laidTests := true, laidLooks := .later }
def RuncodeZerosUptoCardSaid : Prop := Claim7.holds Tryz.pinned (.plain (OpenSpec.upto runcodeZerosSpec)) runcodeZerosUptoCard

/-- THE SECOND FORM's CARD OF 'groovelaw42.RuncodeGamma'. -/
def runcodeGammaUptoCard : Claim7 := { stood := { row := runcodeGammaUptoRow, standIns := [], harness := (true, "e027d352e38e9a399e58a80af082bebf650486675f3e56f724e7cb05b79f7639"), looks := true }, kinds := [], alts := [], laidByText := true, laidKinds := [.data, .data, .data, .data, .sentinel, .sentinel, .pinned], laidTests := true, laidLooks := .later }
def RuncodeGammaUptoCardSaid : Prop := Claim7.holds Tryz.pinned (.plain (OpenSpec.upto runcodeGammaSpec)) runcodeGammaUptoCard

/-- THE SECOND FORM's CARD OF 'groovelaw42.RuncodeNumbers'. -/
def runcodeNumbersUptoCard : Claim7 := { stood := { row := runcodeNumbersUptoRow, standIns := [], harness := (true, "e027d352e38e9a399e58a80af082bebf650486675f3e56f724e7cb05b79f7639"), looks := true }, kinds := [], alts := [], laidByText := true, laidKinds := [.data, .data, .data, .data, .sentinel, .sentinel, .pinned], laidTests := true, laidLooks := .later }
def RuncodeNumbersUptoCardSaid : Prop := Claim7.holds Tryz.pinned (.plain (OpenSpec.upto runcodeNumbersSpec)) runcodeNumbersUptoCard
end Rows
end Go.Proofs.YtieahckbbohfgaaGreatDoor
