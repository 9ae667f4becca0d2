/-
  A parser among the arguments.
  No condition: these are general lemmas.
-/
import Derived.Test.YtjcdddccnfiemaaDoorWordCk
import Derived.Test.YtjcdddccnfiemaaDoorRunLaw
import Derived.Lib.ConvBytes
namespace Go.Proofs.YtjcdddccnfiemaaDoor
open Go.RowKit
set_option linter.unusedVariables false

/-- A parser of n states and q letters among the arguments. -/
structure PVal (w : World) (vS vN vE : Value) (n q : Nat) (st : List ByteArray) (nx em : Nat → Nat → Int) : Prop where
  s : Sl 1 w vS n (strs st)
  nx : Mt w vN n q nx
  em : Mt w vE n q em
theorem PVal.below {w w' : World} {vS vN vE : Value} {n q : Nat} {st : List ByteArray} {nx em : Nat → Nat → Int} (h : PVal w vS vN vE n q st nx em) (hb : Below w.heap.size w w') : PVal w' vS vN vE n q st nx em := ⟨h.s.below hb, h.nx.below hb, h.em.below hb⟩

end Go.Proofs.YtjcdddccnfiemaaDoor
