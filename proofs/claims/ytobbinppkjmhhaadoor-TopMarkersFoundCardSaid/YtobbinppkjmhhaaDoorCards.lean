/-
  DERIVED. GIVEN WITH THE SEED: THE CARDS: each row of YtobbinppkjmhhaaDoorRows.lean that lists a variable, with what it lists TIED to the program's text (the seventh form; the later family's looks); each row that meets fmt, with fmt's text TOLD by the authors' own Lean function (tested against real Go, not proved from fmt's source: count such statements apart). THE CARD IS WHAT COUNTS. Prove the row's statement (the work); the ties are given (YtobbinppkjmhhaaDoorTie.lean); close each card by the builder's one call (the guide's Derived/Test/ToyasCard.lean, 'card_holds'). Laid BY PROGRAM, IN A SANDBOX (cutbox-door.mjs). By AI agents, Wed Nov 11 2026. No macro, syntax, notation, axiom, sorry.
-/
import Derived.Test.YtobbinppkjmhhaaDoorRows
import GoSem.ClaimSeven
namespace Go.Proofs.YtobbinppkjmhhaaDoor
namespace Rows

/-- THE TIED CARD OF 'groovetop.TopMarkersFound'. -/
def topMarkersFoundCard : Claim7 := { stood := { row := topMarkersFoundRow, standIns := [], harness := (true, "98a27356ff908af1fda0a099326ca551fbf0583fa1379feba39d5e3a31d1d565"), looks := false }, kinds := [], alts := [], laidByText := true, laidKinds := [.data, .pinned], laidTests := true, laidLooks := .later }
def TopMarkersFoundCardSaid : Prop := Claim7.holds Tryd.pinned (.plain (OpenSpec.ofChange topMarkersFoundSpec)) topMarkersFoundCard

/-- THE SECOND FORM's CARD OF 'groovetop.TopMarkersFound'. -/
def topMarkersFoundUptoCard : Claim7 := { stood := { row := topMarkersFoundUptoRow, standIns := [], harness := (true, "98a27356ff908af1fda0a099326ca551fbf0583fa1379feba39d5e3a31d1d565"), looks := false }, kinds := [], alts := [], laidByText := true, laidKinds := [.data, .pinned], laidTests := true, laidLooks := .later }
def TopMarkersFoundUptoCardSaid : Prop := Claim7.holds Tryd.pinned (.plain (OpenSpec.upto topMarkersFoundSpec)) topMarkersFoundUptoCard
end Rows
end Go.Proofs.YtobbinppkjmhhaaDoor
