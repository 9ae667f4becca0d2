/-
  The law's word for a program that it does not look at.
  No condition beyond the code and the outputs lying in slices.
-/
import Derived.Test.YtmabciajhmjmeaaGreatDoorPrReduce
import Derived.Test.YtmabciajhmjmeaaGreatDoorPrRef
namespace Go.Proofs.YtmabciajhmjmeaaGreatDoor
open Go.RowKit Go.Deep
set_option linter.unusedVariables false

/-- Too great. -/
def greatB (c : List Ins) (o : List Int) : Bool := decide (30 < (c.length : Int)) || decide (30 < (o.length : Int))
set_option maxHeartbeats 2000000 in
theorem pgreat_any (n : Int) (vc vo : Value) (c : List Ins) (o : List Int) (w : World) (hc : Sl 3 w vc c.length (icells c)) (ho : Sl 1 w vo o.length (ints o)) :
    Calls Tryz.prog 4 #[.agg #[.int .i64 n, vc, vo]] w fun e w' => e = .returned (.bool (greatB c o)) ∧ Below w.heap.size w w' := by
  obtain ⟨ac, cc, rfl, _, hc1, hc2, _⟩ := hc
  obtain ⟨ao, co, rfl, _, ho1, ho2, _⟩ := ho
  by_cases h1 : 30 < (c.length : Int)
  · have e : greatB c o = true := by simp [greatB]; omega
    rw [e]
    have h1' : decide (30 < (c.length : Int)) = true := by simpa using h1
    go_enter Tryz.func4, Tryz.ntmps4
    go_wp2
    go_ret
    exact ⟨rfl, bel_alloc _ _⟩
  · have h1' : decide (30 < (c.length : Int)) = false := by simpa using h1
    have HE := hid (show greatB c o = decide (30 < (o.length : Int)) by rw [greatB, h1']; rfl)
    go_enter Tryz.func4, Tryz.ntmps4
    go_wp2
    go_ret
    exact ⟨ret_bool (by rw [HE.out]), bel_alloc _ _⟩
/-- The law looks at it. -/
def fineB (n : Int) (c : List Ins) (o : List Int) : Bool := !greatB c o && decide (progErr n c o = 0)
end Go.Proofs.YtmabciajhmjmeaaGreatDoor
