/-
  The reference's used, operand and Check: why a program is not valid.
  No condition beyond the instructions and the outputs lying in slices.
-/
import Derived.Test.YtlbamhechkomlaaDoorPrCheck
namespace Go.Proofs.YtlbamhechkomlaaDoor
open Go.RowKit
set_option linter.unusedVariables false

theorem anyOff_take {n : Int} {o : List Int} {k : Nat} {x : Int} (hx : o[k]? = some x) (h : (o.take k).any (offB n) = false) : (o.take (k + 1)).any (offB n) = offB n x := by
  rw [take_snoc hx, List.any_append, h]; simp
theorem anyOff_hit {n : Int} {o : List Int} {x : Int} (hx : x ∈ o) (h : offB n x = true) : o.any (offB n) = true := List.any_eq_true.2 ⟨x, hx, h⟩

end Go.Proofs.YtlbamhechkomlaaDoor
