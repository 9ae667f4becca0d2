/-
  No cell of these rows narrows 'for every input' (looked for: loops, veiled, ifaces, maps, wideKeys, modest, calm, conditions, laid).
  DERIVED. THE GIVEN ROWS OF THIS SEAT. 7 by the template 'for every input the law returns true; each argument reads behind the call as it read before'; 0 by the template 'total and deterministic' (their statements: YtppflnkadjddiaaTotals.lean).
  GIVEN WITH THE SEED: the statements are not yours to turn. If you find one false, say at which input.
  Laid BY PROGRAM, IN A SANDBOX (cutbox-rows.mjs): the forced cells as the released guide's own fill.sh prints them over the translation 22104294a3bd805b… (all of the seat's roots in one cut). By AI agents, Wed Nov 11 2026. No macro, syntax, notation, axiom, sorry.
-/
import Derived.Test.YtppflnkadjddiaaChecked
import GoSem.Claim
import GoSem.ClaimJoined
import GoSem.ClaimMapViews
import Derived.JoinedTies
import Derived.KernelRfl
namespace Go.Proofs.Ytppflnkadjddiaa
/- THE CELL 'sum', in the pinned program and in every row, IS THE sha256 OF THE DUMP (.gsa) THAT YtppflnkadjddiaaProg.lean LOADS. Nothing in Lean hashes anything: it is a label: what it is worth is what the hold of that sum in a sandbox is worth. -/
noncomputable def Try.pinned : Pinned := { name := "ytppflnkadjddiaa", sum := "22104294a3bd805b4bdc00729dae0b528d2fd65bef0d6aab01ff26e8d9ed2cd2", checked := Try.checked }
namespace Rows
def none {H : Type} : Left H := { results := [], args := [] }

/-- 'groovelaw19.StripRoundTrip': WHATEVER THE INPUT: true; the input reads as it did. -/
def stripRoundTripSpec : ChangeSpec := { name := "stripRoundTrip", fn := fun _ => fun
  | [d1, d2] => { results := [.lit (.bool true)], args := [d1, d2] }
  | _ => none }
def stripRoundTripRow : OpenClaim := { program := "ytppflnkadjddiaa", sum := "22104294a3bd805b4bdc00729dae0b528d2fd65bef0d6aab01ff26e8d9ed2cd2", func := "groove/groovelaw19.StripRoundTrip", spec := "stripRoundTrip", inPlace := ["internal/abi.NoEscape", "internal/bytealg.CountString", "internal/bytealg.IndexByteString", "internal/bytealg.IndexString"], unfollowed := true, recurses := true, named := ["internal/bytealg.MaxLen"], apart := false }
def StripRoundTripSaid : Prop := stripRoundTripRow.holds Try.pinned (OpenSpec.ofChange stripRoundTripSpec)

/-- ITS FALSE NEIGHBOUR: 'it returns false'. Refute it at one input. -/
def stripRoundTripWrong : ChangeSpec := { name := "stripRoundTrip", fn := fun _ => fun
  | [d1, d2] => { results := [.lit (.bool false)], args := [d1, d2] }
  | _ => none }
def StripRoundTripWrongFalsely : Prop := stripRoundTripRow.holds Try.pinned (OpenSpec.ofChange stripRoundTripWrong)

/-- 'groovelaw19.StripArrays': WHATEVER THE INPUT: true; the input reads as it did. -/
def stripArraysSpec : ChangeSpec := { name := "stripArrays", fn := fun _ => fun
  | [d1, d2, d3, d4] => { results := [.lit (.bool true)], args := [d1, d2, d3, d4] }
  | _ => none }
def stripArraysRow : OpenClaim := { program := "ytppflnkadjddiaa", sum := "22104294a3bd805b4bdc00729dae0b528d2fd65bef0d6aab01ff26e8d9ed2cd2", func := "groove/groovelaw19.StripArrays", spec := "stripArrays", inPlace := ["internal/abi.NoEscape", "internal/bytealg.CountString", "internal/bytealg.IndexByteString", "internal/bytealg.IndexString"], unfollowed := true, recurses := true, named := ["internal/bytealg.MaxLen"], apart := false }
def StripArraysSaid : Prop := stripArraysRow.holds Try.pinned (OpenSpec.ofChange stripArraysSpec)

/-- ITS FALSE NEIGHBOUR: 'it returns false'. Refute it at one input. -/
def stripArraysWrong : ChangeSpec := { name := "stripArrays", fn := fun _ => fun
  | [d1, d2, d3, d4] => { results := [.lit (.bool false)], args := [d1, d2, d3, d4] }
  | _ => none }
def StripArraysWrongFalsely : Prop := stripArraysRow.holds Try.pinned (OpenSpec.ofChange stripArraysWrong)

/-- 'groovelaw19.StripNeighbours': WHATEVER THE INPUT: true; the input reads as it did. -/
def stripNeighboursSpec : ChangeSpec := { name := "stripNeighbours", fn := fun _ => fun
  | [d1, d2, d3] => { results := [.lit (.bool true)], args := [d1, d2, d3] }
  | _ => none }
def stripNeighboursRow : OpenClaim := { program := "ytppflnkadjddiaa", sum := "22104294a3bd805b4bdc00729dae0b528d2fd65bef0d6aab01ff26e8d9ed2cd2", func := "groove/groovelaw19.StripNeighbours", spec := "stripNeighbours", inPlace := ["internal/abi.NoEscape", "internal/bytealg.CountString", "internal/bytealg.IndexByteString", "internal/bytealg.IndexString"], unfollowed := true, recurses := true, named := ["internal/bytealg.MaxLen"], apart := false }
def StripNeighboursSaid : Prop := stripNeighboursRow.holds Try.pinned (OpenSpec.ofChange stripNeighboursSpec)

/-- ITS FALSE NEIGHBOUR: 'it returns false'. Refute it at one input. -/
def stripNeighboursWrong : ChangeSpec := { name := "stripNeighbours", fn := fun _ => fun
  | [d1, d2, d3] => { results := [.lit (.bool false)], args := [d1, d2, d3] }
  | _ => none }
def StripNeighboursWrongFalsely : Prop := stripNeighboursRow.holds Try.pinned (OpenSpec.ofChange stripNeighboursWrong)

/-- 'groovelaw19.StripCounts': WHATEVER THE INPUT: true; the input reads as it did. -/
def stripCountsSpec : ChangeSpec := { name := "stripCounts", fn := fun _ => fun
  | [d1, d2, d3, d4] => { results := [.lit (.bool true)], args := [d1, d2, d3, d4] }
  | _ => none }
def stripCountsRow : OpenClaim := { program := "ytppflnkadjddiaa", sum := "22104294a3bd805b4bdc00729dae0b528d2fd65bef0d6aab01ff26e8d9ed2cd2", func := "groove/groovelaw19.StripCounts", spec := "stripCounts", inPlace := ["internal/abi.NoEscape", "internal/bytealg.CountString", "internal/bytealg.IndexByteString", "internal/bytealg.IndexString"], unfollowed := true, recurses := true, named := ["internal/bytealg.MaxLen"], apart := false }
def StripCountsSaid : Prop := stripCountsRow.holds Try.pinned (OpenSpec.ofChange stripCountsSpec)

/-- ITS FALSE NEIGHBOUR: 'it returns false'. Refute it at one input. -/
def stripCountsWrong : ChangeSpec := { name := "stripCounts", fn := fun _ => fun
  | [d1, d2, d3, d4] => { results := [.lit (.bool false)], args := [d1, d2, d3, d4] }
  | _ => none }
def StripCountsWrongFalsely : Prop := stripCountsRow.holds Try.pinned (OpenSpec.ofChange stripCountsWrong)

/-- 'groovelaw19.StripTransposed': WHATEVER THE INPUT: true; the input reads as it did. -/
def stripTransposedSpec : ChangeSpec := { name := "stripTransposed", fn := fun _ => fun
  | [d1, d2, d3] => { results := [.lit (.bool true)], args := [d1, d2, d3] }
  | _ => none }
def stripTransposedRow : OpenClaim := { program := "ytppflnkadjddiaa", sum := "22104294a3bd805b4bdc00729dae0b528d2fd65bef0d6aab01ff26e8d9ed2cd2", func := "groove/groovelaw19.StripTransposed", spec := "stripTransposed", inPlace := ["internal/abi.NoEscape", "internal/bytealg.CountString", "internal/bytealg.IndexByteString", "internal/bytealg.IndexString"], unfollowed := true, recurses := true, named := ["internal/bytealg.MaxLen"], apart := false }
def StripTransposedSaid : Prop := stripTransposedRow.holds Try.pinned (OpenSpec.ofChange stripTransposedSpec)

/-- ITS FALSE NEIGHBOUR: 'it returns false'. Refute it at one input. -/
def stripTransposedWrong : ChangeSpec := { name := "stripTransposed", fn := fun _ => fun
  | [d1, d2, d3] => { results := [.lit (.bool false)], args := [d1, d2, d3] }
  | _ => none }
def StripTransposedWrongFalsely : Prop := stripTransposedRow.holds Try.pinned (OpenSpec.ofChange stripTransposedWrong)

/-- 'groovelaw19.StripReads': WHATEVER THE INPUT: true; the input reads as it did. -/
def stripReadsSpec : ChangeSpec := { name := "stripReads", fn := fun _ => fun
  | [d1, d2, d3] => { results := [.lit (.bool true)], args := [d1, d2, d3] }
  | _ => none }
def stripReadsRow : OpenClaim := { program := "ytppflnkadjddiaa", sum := "22104294a3bd805b4bdc00729dae0b528d2fd65bef0d6aab01ff26e8d9ed2cd2", func := "groove/groovelaw19.StripReads", spec := "stripReads", inPlace := ["internal/abi.NoEscape"], unfollowed := true, recurses := true, apart := false }
def StripReadsSaid : Prop := stripReadsRow.holds Try.pinned (OpenSpec.ofChange stripReadsSpec)

/-- ITS FALSE NEIGHBOUR: 'it returns false'. Refute it at one input. -/
def stripReadsWrong : ChangeSpec := { name := "stripReads", fn := fun _ => fun
  | [d1, d2, d3] => { results := [.lit (.bool false)], args := [d1, d2, d3] }
  | _ => none }
def StripReadsWrongFalsely : Prop := stripReadsRow.holds Try.pinned (OpenSpec.ofChange stripReadsWrong)

/-- 'groovelaw19.StripWords': WHATEVER THE INPUT: true; the input reads as it did. -/
def stripWordsSpec : ChangeSpec := { name := "stripWords", fn := fun _ => fun
  | [d1, d2, d3] => { results := [.lit (.bool true)], args := [d1, d2, d3] }
  | _ => none }
def stripWordsRow : OpenClaim := { program := "ytppflnkadjddiaa", sum := "22104294a3bd805b4bdc00729dae0b528d2fd65bef0d6aab01ff26e8d9ed2cd2", func := "groove/groovelaw19.StripWords", spec := "stripWords", inPlace := ["internal/abi.NoEscape", "internal/bytealg.CountString", "internal/bytealg.IndexByteString", "internal/bytealg.IndexString"], unfollowed := true, recurses := true, named := ["internal/bytealg.MaxLen"], apart := false }
def StripWordsSaid : Prop := stripWordsRow.holds Try.pinned (OpenSpec.ofChange stripWordsSpec)

/-- ITS FALSE NEIGHBOUR: 'it returns false'. Refute it at one input. -/
def stripWordsWrong : ChangeSpec := { name := "stripWords", fn := fun _ => fun
  | [d1, d2, d3] => { results := [.lit (.bool false)], args := [d1, d2, d3] }
  | _ => none }
def StripWordsWrongFalsely : Prop := stripWordsRow.holds Try.pinned (OpenSpec.ofChange stripWordsWrong)

/- THE SECOND FORM. 'bulk': how many values and letters a reading holds, each counted each time it is reached (what is shared counts as often as it is met; a slice's spare places count too). A statement '..UptoSaid' is the law's where the arguments, and the package variables that the reading takes, are together of bulk at most 1048576: NARROWER than '..Said'. Prove '..Said' where nothing that the law and all that it calls make is longer than what came in: it says more and counts as full. Else prove '..UptoSaid'. A law counts once. -/
mutual
def uptoBulk {H : Type} : DataW H → Nat
  | .lit (.string bytes) => bytes.length + 1
  | .lit _ => 1
  | .nil => 1
  | .ptr d => uptoBulk d + 1
  | .slice elems spare => uptoBulkAll elems + uptoBulkAll spare + 1
  | .agg parts => uptoBulkAll parts + 1
  | .iface _ d => uptoBulk d + 1
  | .map entries => uptoBulkEntries entries + 1
  | .held _ => 1
def uptoBulkAll {H : Type} : List (DataW H) → Nat
  | [] => 0
  | d :: r => uptoBulk d + uptoBulkAll r
def uptoBulkEntries {H : Type} : List (Lit × DataW H) → Nat
  | [] => 0
  | x :: r => uptoBulkEntry x + uptoBulkEntries r
def uptoBulkEntry {H : Type} : Lit × DataW H → Nat
  | (.string bytes, d) => bytes.length + uptoBulk d + 1
  | (_, d) => uptoBulk d + 1
 end
def uptoSmall : (H : Type) → List (DataW H) → Bool := fun _ ds => decide (uptoBulkAll ds ≤ 1048576)
def OpenSpec.upto (s : _root_.Go.ChangeSpec) : _root_.Go.OpenSpec := { _root_.Go.OpenSpec.ofChange s with cond := some uptoSmall }

/-- 'groovelaw19.StripRoundTrip', WHERE WHAT IT READS IS OF BULK AT MOST 1048576: true; the input reads as it did. -/
def stripRoundTripUptoRow : OpenClaim := { program := "ytppflnkadjddiaa", sum := "22104294a3bd805b4bdc00729dae0b528d2fd65bef0d6aab01ff26e8d9ed2cd2", func := "groove/groovelaw19.StripRoundTrip", spec := "stripRoundTrip", inPlace := ["internal/abi.NoEscape", "internal/bytealg.CountString", "internal/bytealg.IndexByteString", "internal/bytealg.IndexString"], unfollowed := true, recurses := true, named := ["internal/bytealg.MaxLen"], apart := false, narrowed := true }
def StripRoundTripUptoSaid : Prop := stripRoundTripUptoRow.holds Try.pinned (OpenSpec.upto stripRoundTripSpec)

/-- 'groovelaw19.StripArrays', WHERE WHAT IT READS IS OF BULK AT MOST 1048576: true; the input reads as it did. -/
def stripArraysUptoRow : OpenClaim := { program := "ytppflnkadjddiaa", sum := "22104294a3bd805b4bdc00729dae0b528d2fd65bef0d6aab01ff26e8d9ed2cd2", func := "groove/groovelaw19.StripArrays", spec := "stripArrays", inPlace := ["internal/abi.NoEscape", "internal/bytealg.CountString", "internal/bytealg.IndexByteString", "internal/bytealg.IndexString"], unfollowed := true, recurses := true, named := ["internal/bytealg.MaxLen"], apart := false, narrowed := true }
def StripArraysUptoSaid : Prop := stripArraysUptoRow.holds Try.pinned (OpenSpec.upto stripArraysSpec)

/-- 'groovelaw19.StripNeighbours', WHERE WHAT IT READS IS OF BULK AT MOST 1048576: true; the input reads as it did. -/
def stripNeighboursUptoRow : OpenClaim := { program := "ytppflnkadjddiaa", sum := "22104294a3bd805b4bdc00729dae0b528d2fd65bef0d6aab01ff26e8d9ed2cd2", func := "groove/groovelaw19.StripNeighbours", spec := "stripNeighbours", inPlace := ["internal/abi.NoEscape", "internal/bytealg.CountString", "internal/bytealg.IndexByteString", "internal/bytealg.IndexString"], unfollowed := true, recurses := true, named := ["internal/bytealg.MaxLen"], apart := false, narrowed := true }
def StripNeighboursUptoSaid : Prop := stripNeighboursUptoRow.holds Try.pinned (OpenSpec.upto stripNeighboursSpec)

/-- 'groovelaw19.StripCounts', WHERE WHAT IT READS IS OF BULK AT MOST 1048576: true; the input reads as it did. -/
def stripCountsUptoRow : OpenClaim := { program := "ytppflnkadjddiaa", sum := "22104294a3bd805b4bdc00729dae0b528d2fd65bef0d6aab01ff26e8d9ed2cd2", func := "groove/groovelaw19.StripCounts", spec := "stripCounts", inPlace := ["internal/abi.NoEscape", "internal/bytealg.CountString", "internal/bytealg.IndexByteString", "internal/bytealg.IndexString"], unfollowed := true, recurses := true, named := ["internal/bytealg.MaxLen"], apart := false, narrowed := true }
def StripCountsUptoSaid : Prop := stripCountsUptoRow.holds Try.pinned (OpenSpec.upto stripCountsSpec)

/-- 'groovelaw19.StripTransposed', WHERE WHAT IT READS IS OF BULK AT MOST 1048576: true; the input reads as it did. -/
def stripTransposedUptoRow : OpenClaim := { program := "ytppflnkadjddiaa", sum := "22104294a3bd805b4bdc00729dae0b528d2fd65bef0d6aab01ff26e8d9ed2cd2", func := "groove/groovelaw19.StripTransposed", spec := "stripTransposed", inPlace := ["internal/abi.NoEscape", "internal/bytealg.CountString", "internal/bytealg.IndexByteString", "internal/bytealg.IndexString"], unfollowed := true, recurses := true, named := ["internal/bytealg.MaxLen"], apart := false, narrowed := true }
def StripTransposedUptoSaid : Prop := stripTransposedUptoRow.holds Try.pinned (OpenSpec.upto stripTransposedSpec)

/-- 'groovelaw19.StripReads', WHERE WHAT IT READS IS OF BULK AT MOST 1048576: true; the input reads as it did. -/
def stripReadsUptoRow : OpenClaim := { program := "ytppflnkadjddiaa", sum := "22104294a3bd805b4bdc00729dae0b528d2fd65bef0d6aab01ff26e8d9ed2cd2", func := "groove/groovelaw19.StripReads", spec := "stripReads", inPlace := ["internal/abi.NoEscape"], unfollowed := true, recurses := true, apart := false, narrowed := true }
def StripReadsUptoSaid : Prop := stripReadsUptoRow.holds Try.pinned (OpenSpec.upto stripReadsSpec)

/-- 'groovelaw19.StripWords', WHERE WHAT IT READS IS OF BULK AT MOST 1048576: true; the input reads as it did. -/
def stripWordsUptoRow : OpenClaim := { program := "ytppflnkadjddiaa", sum := "22104294a3bd805b4bdc00729dae0b528d2fd65bef0d6aab01ff26e8d9ed2cd2", func := "groove/groovelaw19.StripWords", spec := "stripWords", inPlace := ["internal/abi.NoEscape", "internal/bytealg.CountString", "internal/bytealg.IndexByteString", "internal/bytealg.IndexString"], unfollowed := true, recurses := true, named := ["internal/bytealg.MaxLen"], apart := false, narrowed := true }
def StripWordsUptoSaid : Prop := stripWordsUptoRow.holds Try.pinned (OpenSpec.upto stripWordsSpec)

end Rows
end Go.Proofs.Ytppflnkadjddiaa
