/-
  DERIVED. GIVEN WITH THE SEED: THE CARDS: each row of YtjcdddccnfiemaaDoorRows.lean that lists a variable, with what it lists TIED to the program's text (the seventh form; the later family's looks); each row that meets fmt, with fmt's text TOLD by the authors' own Lean function (tested against real Go, not proved from fmt's source: count such statements apart). THE CARD IS WHAT COUNTS. Prove the row's statement (the work); the ties are given (YtjcdddccnfiemaaDoorTie.lean); close each card by the builder's one call (the guide's Derived/Test/ToyasCard.lean, 'card_holds'). Laid BY PROGRAM, IN A SANDBOX (cutbox-door.mjs). By AI agents, Wed Nov 11 2026. No macro, syntax, notation, axiom, sorry.
-/
import Derived.Test.YtjcdddccnfiemaaDoorRows
import GoSem.ClaimSeven
namespace Go.Proofs.YtjcdddccnfiemaaDoor
namespace Rows

/-- THE TIED CARD OF 'groovetop.TopResetBounded'. -/
def topResetBoundedCard : Claim7 := { stood := { row := topResetBoundedRow, standIns := [], harness := (true, "1c0ff34236d6189728fbe37afc7b3bee9fe2eda84e75a585432313cb21833a32"), looks := false }, kinds := [], alts := [], laidByText := true, laidKinds := [.data, .data], laidTests := true, laidLooks := .later }
def TopResetBoundedCardSaid : Prop := Claim7.holds Tryd.pinned (.plain (OpenSpec.ofChange topResetBoundedSpec)) topResetBoundedCard

/-- THE SECOND FORM's CARD OF 'groovetop.TopResetBounded'. -/
def topResetBoundedUptoCard : Claim7 := { stood := { row := topResetBoundedUptoRow, standIns := [], harness := (true, "1c0ff34236d6189728fbe37afc7b3bee9fe2eda84e75a585432313cb21833a32"), looks := false }, kinds := [], alts := [], laidByText := true, laidKinds := [.data, .data], laidTests := true, laidLooks := .later }
def TopResetBoundedUptoCardSaid : Prop := Claim7.holds Tryd.pinned (.plain (OpenSpec.upto topResetBoundedSpec)) topResetBoundedUptoCard
end Rows
end Go.Proofs.YtjcdddccnfiemaaDoor
