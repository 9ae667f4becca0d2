/-
  reset.all: the set of all states.
  The automaton has at most 16 states.
-/
import Derived.Test.YtjcdddccnfiemaaDoorAid
import Derived.Test.YtjcdddccnfiemaaDoorBitSet
namespace Go.Proofs.YtjcdddccnfiemaaDoor
open Go.RowKit
set_option linter.unusedVariables false

set_option maxRecDepth 100000 in
set_option maxHeartbeats 2000000 in
theorem all_any (Q : Int) (v : Value) (n m : Nat) (f : Nat → Nat → Int) (w : World) (hM : Mt w v n m f) (hn : n ≤ 16) :
    Calls Tryd.prog 27 #[.agg #[.int .i64 Q, v]] w fun e w' => e = .returned (.int .i64 ((2 ^ n - 1 : Nat) : Int)) ∧ Below w.heap.size w w' := by
  obtain ⟨ao, cap, rfl, hc1, hc2⟩ := hM.slice
  clear hM
  obtain ⟨P, hP⟩ : ∃ P : Nat, 2 ^ n = P := ⟨_, rfl⟩
  have hP6 : P ≤ 65536 := by rw [← hP]; exact Nat.le_trans (Nat.pow_le_pow_right (by decide) hn) (by decide)
  have hP1 : 1 ≤ P := by rw [← hP]; exact Nat.one_le_two_pow
  have h1 : ((2 : Int) ^ n) = (P : Int) := by rw [← hP]; simp
  have hE := hid (show wrap64 (wrap64 (2 ^ min n 64) - 1) = ((P - 1 : Nat) : Int) by
    rw [Nat.min_eq_left (by omega), h1]
    unfold wrap64
    omega)
  rw [hP]
  clear hP h1 hP6 hP1 hn
  go_enter Tryd.func27, Tryd.ntmps27
  go_wp2
  go_ret
  exact ⟨ret_int hE.out, bel_alloc _ _⟩
end Go.Proofs.YtjcdddccnfiemaaDoor
