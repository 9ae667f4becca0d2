/-
  A rational number against itself: the two are equal.
  No condition.
-/
import Derived.Test.YtieahckbbohfgaaGreatDoorRatOps
import Derived.Laws.StructEq
namespace Go.Proofs.YtieahckbbohfgaaGreatDoor
open Go.RowKit Go.Deep
set_option linter.unusedVariables false

theorem eq_int_in (s : ByteArray) (w : World) : (Op.equalIn 9999 56 (.agg #[.bool false, .string s]) (.agg #[.bool false, .string s])).run Tryz.prog w = .ok true w := by
  have hS : Tryz.prog.underlying 56 = some (.struct (Tryz.prog.fieldsOf 56)) := by kernel_rfl
  have hp : Tryz.prog.stoodInHeld 56 = false := by kernel_rfl
  rw [show (9999 : Nat) = 9998 + 1 from rfl, run_equalIn_agg w 9998 56 _ _ hS hp]
  simp only [Program.fieldsOf, Tryz.underlying56]
  have u4 := Tryz.underlying4
  have a4 := Tryz.isAgg4
  have z4 := Tryz.sizeOf4
  have u9 := Tryz.underlying9
  have a9 := Tryz.isAgg9
  have z9 := Tryz.sizeOf9
  go_simp
theorem eq_rat_in (s t : ByteArray) (w : World) : (Op.equalIn 10000 58 (.agg #[.bool false, .string s, .bool false, .string t]) (.agg #[.bool false, .string s, .bool false, .string t])).run Tryz.prog w = .ok true w := by
  have hS : Tryz.prog.underlying 58 = some (.struct (Tryz.prog.fieldsOf 58)) := by kernel_rfl
  have hp : Tryz.prog.stoodInHeld 58 = false := by kernel_rfl
  rw [show (10000 : Nat) = 9999 + 1 from rfl, run_equalIn_agg w 9999 58 _ _ hS hp]
  simp only [Program.fieldsOf, Tryz.underlying58]
  have a56 := Tryz.isAgg56
  have z56 := Tryz.sizeOf56
  have h1 := eq_int_in s
  have h2 := eq_int_in t
  go_simp
theorem neq_rat (s t : ByteArray) (w : World) : (binOp .neq 58 (.agg #[.bool false, .string s, .bool false, .string t]) (.agg #[.bool false, .string s, .bool false, .string t])).run Tryz.prog w = .ok (.bool false) w := by
  rw [run_neq_struct, eq_rat_in]; rfl
theorem guard_rat (op : BinOp) (p q : Operand) (xs ys : Array Value) (w : World) : (eqGuard op 58 p q (.agg xs) (.agg ys)).run Tryz.prog w = .ok () w := run_eqGuard_agg w op _ _ _ _ _ (by kernel_rfl)
end Go.Proofs.YtieahckbbohfgaaGreatDoor
