/-
  DERIVED. GIVEN WITH THE SEED: THE CARDS: each row of YtcobdmenigpipaaGreatDoorRows.lean that lists a variable, with what it lists TIED to the program's text (the seventh form; the later family's looks); each row that meets fmt, with fmt's text TOLD by the authors' own Lean function (tested against real Go, not proved from fmt's source: count such statements apart). THE CARD IS WHAT COUNTS. Prove the row's statement (the work); the ties are given (YtcobdmenigpipaaGreatDoorTie.lean); close each card by the builder's one call (the guide's Derived/Test/ToyasCard.lean, 'card_holds'). Laid BY PROGRAM, IN A SANDBOX (cutbox-door.mjs). By AI agents, Wed Nov 11 2026. No macro, syntax, notation, axiom, sorry.
-/
import Derived.Test.YtcobdmenigpipaaGreatDoorRows
import GoSem.ClaimSeven
namespace Go.Proofs.YtcobdmenigpipaaGreatDoor
namespace Rows

/-- THE TIED CARD OF 'groovetop.TopDriftless'. -/
def topDriftlessCard : Claim7 := { stood := { row := topDriftlessRow, standIns := [], harness := (true, "1efde23741ee6e695224d385b185937ef0166f074829fc6cf1b7928ff5e8af2a"), looks := false }, kinds := [], alts := [], laidByText := true, laidKinds := [.data, .pinned], laidTests := true, laidLooks := .later }
def TopDriftlessCardSaid : Prop := Claim7.holds Tryz.pinned (.plain (OpenSpec.ofChange topDriftlessSpec)) topDriftlessCard

/-- THE SECOND FORM's CARD OF 'groovetop.TopDriftless'. -/
def topDriftlessUptoCard : Claim7 := { stood := { row := topDriftlessUptoRow, standIns := [], harness := (true, "1efde23741ee6e695224d385b185937ef0166f074829fc6cf1b7928ff5e8af2a"), looks := false }, kinds := [], alts := [], laidByText := true, laidKinds := [.data, .pinned], laidTests := true, laidLooks := .later }
def TopDriftlessUptoCardSaid : Prop := Claim7.holds Tryz.pinned (.plain (OpenSpec.upto topDriftlessSpec)) topDriftlessUptoCard
end Rows
end Go.Proofs.YtcobdmenigpipaaGreatDoor
