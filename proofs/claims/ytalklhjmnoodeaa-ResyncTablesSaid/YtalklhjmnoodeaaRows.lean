/-
  No cell of these rows narrows 'for every input' (looked for: loops, veiled, ifaces, maps, wideKeys, modest, calm, conditions, laid).
  DERIVED. THE GIVEN ROWS OF THIS SEAT. 8 by the template 'for every input the law returns true; each argument reads behind the call as it read before'; 0 by the template 'total and deterministic' (their statements: YtalklhjmnoodeaaTotals.lean).
  GIVEN WITH THE SEED: the statements are not yours to turn. If you find one false, say at which input.
  Laid BY PROGRAM, IN A SANDBOX (cutbox-rows.mjs): the forced cells as the released guide's own fill.sh prints them over the translation 5ba137bf6714fcd9… (all of the seat's roots in one cut). By AI agents, Wed Nov 11 2026. No macro, syntax, notation, axiom, sorry.
-/
import Derived.Test.YtalklhjmnoodeaaChecked
import GoSem.Claim
import GoSem.ClaimJoined
import GoSem.ClaimMapViews
import Derived.JoinedTies
import Derived.KernelRfl
namespace Go.Proofs.Ytalklhjmnoodeaa
/- THE CELL 'sum', in the pinned program and in every row, IS THE sha256 OF THE DUMP (.gsa) THAT YtalklhjmnoodeaaProg.lean LOADS. Nothing in Lean hashes anything: it is a label: what it is worth is what the hold of that sum in a sandbox is worth. -/
noncomputable def Try.pinned : Pinned := { name := "ytalklhjmnoodeaa", sum := "5ba137bf6714fcd916cb33c3acdd1aa5de9b179f27319f9cff8dc8ff9553c9d1", checked := Try.checked }
namespace Rows
def none {H : Type} : Left H := { results := [], args := [] }

/-- 'groovelaw45.ResyncDelays': WHATEVER THE INPUT: true; the input reads as it did. -/
def resyncDelaysSpec : ChangeSpec := { name := "resyncDelays", fn := fun _ => fun
  | [d1, d2, d3, d4, d5] => { results := [.lit (.bool true)], args := [d1, d2, d3, d4, d5] }
  | _ => none }
def resyncDelaysRow : OpenClaim := { program := "ytalklhjmnoodeaa", sum := "5ba137bf6714fcd916cb33c3acdd1aa5de9b179f27319f9cff8dc8ff9553c9d1", func := "groove/groovelaw45.ResyncDelays", spec := "resyncDelays", inPlace := ["internal/bytealg.IndexByteString", "internal/bytealg.abigen_runtime_cmpstring"], unfollowed := true, recurses := true, apart := false }
def ResyncDelaysSaid : Prop := resyncDelaysRow.holds Try.pinned (OpenSpec.ofChange resyncDelaysSpec)

/-- ITS FALSE NEIGHBOUR: 'it returns false'. Refute it at one input. -/
def resyncDelaysWrong : ChangeSpec := { name := "resyncDelays", fn := fun _ => fun
  | [d1, d2, d3, d4, d5] => { results := [.lit (.bool false)], args := [d1, d2, d3, d4, d5] }
  | _ => none }
def ResyncDelaysWrongFalsely : Prop := resyncDelaysRow.holds Try.pinned (OpenSpec.ofChange resyncDelaysWrong)

/-- 'groovelaw45.ResyncPairs': WHATEVER THE INPUT: true; the input reads as it did. -/
def resyncPairsSpec : ChangeSpec := { name := "resyncPairs", fn := fun _ => fun
  | [d] => { results := [.lit (.bool true)], args := [d] }
  | _ => none }
def resyncPairsRow : OpenClaim := { program := "ytalklhjmnoodeaa", sum := "5ba137bf6714fcd916cb33c3acdd1aa5de9b179f27319f9cff8dc8ff9553c9d1", func := "groove/groovelaw45.ResyncPairs", spec := "resyncPairs", inPlace := ["internal/bytealg.IndexByteString", "internal/bytealg.abigen_runtime_cmpstring"], unfollowed := true, recurses := true, apart := false }
def ResyncPairsSaid : Prop := resyncPairsRow.holds Try.pinned (OpenSpec.ofChange resyncPairsSpec)

/-- ITS FALSE NEIGHBOUR: 'it returns false'. Refute it at one input. -/
def resyncPairsWrong : ChangeSpec := { name := "resyncPairs", fn := fun _ => fun
  | [d] => { results := [.lit (.bool false)], args := [d] }
  | _ => none }
def ResyncPairsWrongFalsely : Prop := resyncPairsRow.holds Try.pinned (OpenSpec.ofChange resyncPairsWrong)

/-- 'groovelaw45.ResyncBounds': WHATEVER THE INPUT: true; the input reads as it did. -/
def resyncBoundsSpec : ChangeSpec := { name := "resyncBounds", fn := fun _ => fun
  | [d1, d2, d3, d4] => { results := [.lit (.bool true)], args := [d1, d2, d3, d4] }
  | _ => none }
def resyncBoundsRow : OpenClaim := { program := "ytalklhjmnoodeaa", sum := "5ba137bf6714fcd916cb33c3acdd1aa5de9b179f27319f9cff8dc8ff9553c9d1", func := "groove/groovelaw45.ResyncBounds", spec := "resyncBounds", inPlace := ["internal/bytealg.IndexByteString", "internal/bytealg.abigen_runtime_cmpstring"], unfollowed := true, recurses := true, apart := false }
def ResyncBoundsSaid : Prop := resyncBoundsRow.holds Try.pinned (OpenSpec.ofChange resyncBoundsSpec)

/-- ITS FALSE NEIGHBOUR: 'it returns false'. Refute it at one input. -/
def resyncBoundsWrong : ChangeSpec := { name := "resyncBounds", fn := fun _ => fun
  | [d1, d2, d3, d4] => { results := [.lit (.bool false)], args := [d1, d2, d3, d4] }
  | _ => none }
def ResyncBoundsWrongFalsely : Prop := resyncBoundsRow.holds Try.pinned (OpenSpec.ofChange resyncBoundsWrong)

/-- 'groovelaw45.ResyncTables': WHATEVER THE INPUT: true; the input reads as it did. -/
def resyncTablesSpec : ChangeSpec := { name := "resyncTables", fn := fun _ => fun
  | [d] => { results := [.lit (.bool true)], args := [d] }
  | _ => none }
def resyncTablesRow : OpenClaim := { program := "ytalklhjmnoodeaa", sum := "5ba137bf6714fcd916cb33c3acdd1aa5de9b179f27319f9cff8dc8ff9553c9d1", func := "groove/groovelaw45.ResyncTables", spec := "resyncTables", inPlace := ["internal/bytealg.IndexByteString", "internal/bytealg.abigen_runtime_cmpstring"], unfollowed := true, recurses := true, apart := false }
def ResyncTablesSaid : Prop := resyncTablesRow.holds Try.pinned (OpenSpec.ofChange resyncTablesSpec)

/-- ITS FALSE NEIGHBOUR: 'it returns false'. Refute it at one input. -/
def resyncTablesWrong : ChangeSpec := { name := "resyncTables", fn := fun _ => fun
  | [d] => { results := [.lit (.bool false)], args := [d] }
  | _ => none }
def ResyncTablesWrongFalsely : Prop := resyncTablesRow.holds Try.pinned (OpenSpec.ofChange resyncTablesWrong)

/-- 'groovelaw45.ResyncAgrees': WHATEVER THE INPUT: true; the input reads as it did. -/
def resyncAgreesSpec : ChangeSpec := { name := "resyncAgrees", fn := fun _ => fun
  | [d1, d2, d3, d4] => { results := [.lit (.bool true)], args := [d1, d2, d3, d4] }
  | _ => none }
def resyncAgreesRow : OpenClaim := { program := "ytalklhjmnoodeaa", sum := "5ba137bf6714fcd916cb33c3acdd1aa5de9b179f27319f9cff8dc8ff9553c9d1", func := "groove/groovelaw45.ResyncAgrees", spec := "resyncAgrees", inPlace := ["internal/bytealg.IndexByteString", "internal/bytealg.abigen_runtime_cmpstring"], unfollowed := true, recurses := true, apart := false }
def ResyncAgreesSaid : Prop := resyncAgreesRow.holds Try.pinned (OpenSpec.ofChange resyncAgreesSpec)

/-- ITS FALSE NEIGHBOUR: 'it returns false'. Refute it at one input. -/
def resyncAgreesWrong : ChangeSpec := { name := "resyncAgrees", fn := fun _ => fun
  | [d1, d2, d3, d4] => { results := [.lit (.bool false)], args := [d1, d2, d3, d4] }
  | _ => none }
def ResyncAgreesWrongFalsely : Prop := resyncAgreesRow.holds Try.pinned (OpenSpec.ofChange resyncAgreesWrong)

/-- 'groovelaw45.ResyncSlips': WHATEVER THE INPUT: true; the input reads as it did. -/
def resyncSlipsSpec : ChangeSpec := { name := "resyncSlips", fn := fun _ => fun
  | [d1, d2, d3] => { results := [.lit (.bool true)], args := [d1, d2, d3] }
  | _ => none }
def resyncSlipsRow : OpenClaim := { program := "ytalklhjmnoodeaa", sum := "5ba137bf6714fcd916cb33c3acdd1aa5de9b179f27319f9cff8dc8ff9553c9d1", func := "groove/groovelaw45.ResyncSlips", spec := "resyncSlips", inPlace := ["internal/bytealg.IndexByteString", "internal/bytealg.abigen_runtime_cmpstring"], unfollowed := true, recurses := true, apart := false }
def ResyncSlipsSaid : Prop := resyncSlipsRow.holds Try.pinned (OpenSpec.ofChange resyncSlipsSpec)

/-- ITS FALSE NEIGHBOUR: 'it returns false'. Refute it at one input. -/
def resyncSlipsWrong : ChangeSpec := { name := "resyncSlips", fn := fun _ => fun
  | [d1, d2, d3] => { results := [.lit (.bool false)], args := [d1, d2, d3] }
  | _ => none }
def ResyncSlipsWrongFalsely : Prop := resyncSlipsRow.holds Try.pinned (OpenSpec.ofChange resyncSlipsWrong)

/-- 'groovelaw45.ResyncLosses': WHATEVER THE INPUT: true; the input reads as it did. -/
def resyncLossesSpec : ChangeSpec := { name := "resyncLosses", fn := fun _ => fun
  | [d1, d2, d3] => { results := [.lit (.bool true)], args := [d1, d2, d3] }
  | _ => none }
def resyncLossesRow : OpenClaim := { program := "ytalklhjmnoodeaa", sum := "5ba137bf6714fcd916cb33c3acdd1aa5de9b179f27319f9cff8dc8ff9553c9d1", func := "groove/groovelaw45.ResyncLosses", spec := "resyncLosses", inPlace := ["internal/bytealg.IndexByteString", "internal/bytealg.abigen_runtime_cmpstring", "internal/bytealg.IndexString"], unfollowed := true, recurses := true, named := ["internal/bytealg.MaxLen"], apart := false }
def ResyncLossesSaid : Prop := resyncLossesRow.holds Try.pinned (OpenSpec.ofChange resyncLossesSpec)

/-- ITS FALSE NEIGHBOUR: 'it returns false'. Refute it at one input. -/
def resyncLossesWrong : ChangeSpec := { name := "resyncLosses", fn := fun _ => fun
  | [d1, d2, d3] => { results := [.lit (.bool false)], args := [d1, d2, d3] }
  | _ => none }
def ResyncLossesWrongFalsely : Prop := resyncLossesRow.holds Try.pinned (OpenSpec.ofChange resyncLossesWrong)

/-- 'groovelaw45.ResyncSynchronizes': WHATEVER THE INPUT: true; the input reads as it did. -/
def resyncSynchronizesSpec : ChangeSpec := { name := "resyncSynchronizes", fn := fun _ => fun
  | [d] => { results := [.lit (.bool true)], args := [d] }
  | _ => none }
def resyncSynchronizesRow : OpenClaim := { program := "ytalklhjmnoodeaa", sum := "5ba137bf6714fcd916cb33c3acdd1aa5de9b179f27319f9cff8dc8ff9553c9d1", func := "groove/groovelaw45.ResyncSynchronizes", spec := "resyncSynchronizes", inPlace := ["internal/bytealg.IndexByteString", "internal/bytealg.abigen_runtime_cmpstring", "internal/abi.NoEscape", "internal/bytealg.MakeNoZero"], unfollowed := true, recurses := true, apart := false }
def ResyncSynchronizesSaid : Prop := resyncSynchronizesRow.holds Try.pinned (OpenSpec.ofChange resyncSynchronizesSpec)

/-- ITS FALSE NEIGHBOUR: 'it returns false'. Refute it at one input. -/
def resyncSynchronizesWrong : ChangeSpec := { name := "resyncSynchronizes", fn := fun _ => fun
  | [d] => { results := [.lit (.bool false)], args := [d] }
  | _ => none }
def ResyncSynchronizesWrongFalsely : Prop := resyncSynchronizesRow.holds Try.pinned (OpenSpec.ofChange resyncSynchronizesWrong)

/- THE SECOND FORM. 'bulk': how many values and letters a reading holds, each counted each time it is reached (what is shared counts as often as it is met; a slice's spare places count too). A statement '..UptoSaid' is the law's where the arguments, and the package variables that the reading takes, are together of bulk at most 1048576: NARROWER than '..Said'. Prove '..Said' where nothing that the law and all that it calls make is longer than what came in: it says more and counts as full. Else prove '..UptoSaid'. A law counts once. -/
mutual
def uptoBulk {H : Type} : DataW H → Nat
  | .lit (.string bytes) => bytes.length + 1
  | .lit _ => 1
  | .nil => 1
  | .ptr d => uptoBulk d + 1
  | .slice elems spare => uptoBulkAll elems + uptoBulkAll spare + 1
  | .agg parts => uptoBulkAll parts + 1
  | .iface _ d => uptoBulk d + 1
  | .map entries => uptoBulkEntries entries + 1
  | .held _ => 1
def uptoBulkAll {H : Type} : List (DataW H) → Nat
  | [] => 0
  | d :: r => uptoBulk d + uptoBulkAll r
def uptoBulkEntries {H : Type} : List (Lit × DataW H) → Nat
  | [] => 0
  | x :: r => uptoBulkEntry x + uptoBulkEntries r
def uptoBulkEntry {H : Type} : Lit × DataW H → Nat
  | (.string bytes, d) => bytes.length + uptoBulk d + 1
  | (_, d) => uptoBulk d + 1
 end
def uptoSmall : (H : Type) → List (DataW H) → Bool := fun _ ds => decide (uptoBulkAll ds ≤ 1048576)
def OpenSpec.upto (s : _root_.Go.ChangeSpec) : _root_.Go.OpenSpec := { _root_.Go.OpenSpec.ofChange s with cond := some uptoSmall }

/-- 'groovelaw45.ResyncDelays', WHERE WHAT IT READS IS OF BULK AT MOST 1048576: true; the input reads as it did. -/
def resyncDelaysUptoRow : OpenClaim := { program := "ytalklhjmnoodeaa", sum := "5ba137bf6714fcd916cb33c3acdd1aa5de9b179f27319f9cff8dc8ff9553c9d1", func := "groove/groovelaw45.ResyncDelays", spec := "resyncDelays", inPlace := ["internal/bytealg.IndexByteString", "internal/bytealg.abigen_runtime_cmpstring"], unfollowed := true, recurses := true, apart := false, narrowed := true }
def ResyncDelaysUptoSaid : Prop := resyncDelaysUptoRow.holds Try.pinned (OpenSpec.upto resyncDelaysSpec)

/-- 'groovelaw45.ResyncPairs', WHERE WHAT IT READS IS OF BULK AT MOST 1048576: true; the input reads as it did. -/
def resyncPairsUptoRow : OpenClaim := { program := "ytalklhjmnoodeaa", sum := "5ba137bf6714fcd916cb33c3acdd1aa5de9b179f27319f9cff8dc8ff9553c9d1", func := "groove/groovelaw45.ResyncPairs", spec := "resyncPairs", inPlace := ["internal/bytealg.IndexByteString", "internal/bytealg.abigen_runtime_cmpstring"], unfollowed := true, recurses := true, apart := false, narrowed := true }
def ResyncPairsUptoSaid : Prop := resyncPairsUptoRow.holds Try.pinned (OpenSpec.upto resyncPairsSpec)

/-- 'groovelaw45.ResyncBounds', WHERE WHAT IT READS IS OF BULK AT MOST 1048576: true; the input reads as it did. -/
def resyncBoundsUptoRow : OpenClaim := { program := "ytalklhjmnoodeaa", sum := "5ba137bf6714fcd916cb33c3acdd1aa5de9b179f27319f9cff8dc8ff9553c9d1", func := "groove/groovelaw45.ResyncBounds", spec := "resyncBounds", inPlace := ["internal/bytealg.IndexByteString", "internal/bytealg.abigen_runtime_cmpstring"], unfollowed := true, recurses := true, apart := false, narrowed := true }
def ResyncBoundsUptoSaid : Prop := resyncBoundsUptoRow.holds Try.pinned (OpenSpec.upto resyncBoundsSpec)

/-- 'groovelaw45.ResyncTables', WHERE WHAT IT READS IS OF BULK AT MOST 1048576: true; the input reads as it did. -/
def resyncTablesUptoRow : OpenClaim := { program := "ytalklhjmnoodeaa", sum := "5ba137bf6714fcd916cb33c3acdd1aa5de9b179f27319f9cff8dc8ff9553c9d1", func := "groove/groovelaw45.ResyncTables", spec := "resyncTables", inPlace := ["internal/bytealg.IndexByteString", "internal/bytealg.abigen_runtime_cmpstring"], unfollowed := true, recurses := true, apart := false, narrowed := true }
def ResyncTablesUptoSaid : Prop := resyncTablesUptoRow.holds Try.pinned (OpenSpec.upto resyncTablesSpec)

/-- 'groovelaw45.ResyncAgrees', WHERE WHAT IT READS IS OF BULK AT MOST 1048576: true; the input reads as it did. -/
def resyncAgreesUptoRow : OpenClaim := { program := "ytalklhjmnoodeaa", sum := "5ba137bf6714fcd916cb33c3acdd1aa5de9b179f27319f9cff8dc8ff9553c9d1", func := "groove/groovelaw45.ResyncAgrees", spec := "resyncAgrees", inPlace := ["internal/bytealg.IndexByteString", "internal/bytealg.abigen_runtime_cmpstring"], unfollowed := true, recurses := true, apart := false, narrowed := true }
def ResyncAgreesUptoSaid : Prop := resyncAgreesUptoRow.holds Try.pinned (OpenSpec.upto resyncAgreesSpec)

/-- 'groovelaw45.ResyncSlips', WHERE WHAT IT READS IS OF BULK AT MOST 1048576: true; the input reads as it did. -/
def resyncSlipsUptoRow : OpenClaim := { program := "ytalklhjmnoodeaa", sum := "5ba137bf6714fcd916cb33c3acdd1aa5de9b179f27319f9cff8dc8ff9553c9d1", func := "groove/groovelaw45.ResyncSlips", spec := "resyncSlips", inPlace := ["internal/bytealg.IndexByteString", "internal/bytealg.abigen_runtime_cmpstring"], unfollowed := true, recurses := true, apart := false, narrowed := true }
def ResyncSlipsUptoSaid : Prop := resyncSlipsUptoRow.holds Try.pinned (OpenSpec.upto resyncSlipsSpec)

/-- 'groovelaw45.ResyncLosses', WHERE WHAT IT READS IS OF BULK AT MOST 1048576: true; the input reads as it did. -/
def resyncLossesUptoRow : OpenClaim := { program := "ytalklhjmnoodeaa", sum := "5ba137bf6714fcd916cb33c3acdd1aa5de9b179f27319f9cff8dc8ff9553c9d1", func := "groove/groovelaw45.ResyncLosses", spec := "resyncLosses", inPlace := ["internal/bytealg.IndexByteString", "internal/bytealg.abigen_runtime_cmpstring", "internal/bytealg.IndexString"], unfollowed := true, recurses := true, named := ["internal/bytealg.MaxLen"], apart := false, narrowed := true }
def ResyncLossesUptoSaid : Prop := resyncLossesUptoRow.holds Try.pinned (OpenSpec.upto resyncLossesSpec)

/-- 'groovelaw45.ResyncSynchronizes', WHERE WHAT IT READS IS OF BULK AT MOST 1048576: true; the input reads as it did. -/
def resyncSynchronizesUptoRow : OpenClaim := { program := "ytalklhjmnoodeaa", sum := "5ba137bf6714fcd916cb33c3acdd1aa5de9b179f27319f9cff8dc8ff9553c9d1", func := "groove/groovelaw45.ResyncSynchronizes", spec := "resyncSynchronizes", inPlace := ["internal/bytealg.IndexByteString", "internal/bytealg.abigen_runtime_cmpstring", "internal/abi.NoEscape", "internal/bytealg.MakeNoZero"], unfollowed := true, recurses := true, apart := false, narrowed := true }
def ResyncSynchronizesUptoSaid : Prop := resyncSynchronizesUptoRow.holds Try.pinned (OpenSpec.upto resyncSynchronizesSpec)

end Rows
end Go.Proofs.Ytalklhjmnoodeaa
