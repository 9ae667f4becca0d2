/-
  strip.Hard: the blocks without two neighbouring bits 1.
  No condition.
-/
import Derived.Test.YtppflnkadjddiaaNumbers
namespace Go.Proofs.Ytppflnkadjddiaa
open Go.RowKit
set_option linter.unusedVariables false

/-- A block without two neighbouring bits 1. -/
def hardB (n : Nat) : Bool := decide (n / 8 % 2 + n / 4 % 2 < 2) && decide (n / 2 % 2 + n % 2 < 2) && decide (n / 8 % 2 + n / 2 % 2 < 2) && decide (n / 4 % 2 + n % 2 < 2)
def hards : Nat → List Int
  | 0 => []
  | k + 1 => if hardB k then hards k ++ [(k : Int)] else hards k
theorem hards_all : hards 16 = [0, 1, 2, 4, 6, 8, 9] := by decide
theorem hards_len (k : Nat) : (hards k).length ≤ k := by
  induction k with
  | zero => simp [hards]
  | succ k ih =>
    rw [hards]
    split
    · simp; omega
    · omega
theorem hardB_iff (k : Nat) : hardB k = true ↔ (k / 8 % 2 + k / 4 % 2 < 2 ∧ k / 2 % 2 + k % 2 < 2 ∧ k / 8 % 2 + k / 2 % 2 < 2 ∧ k / 4 % 2 + k % 2 < 2) := by
  simp [hardB, and_assoc]
theorem hards_yes {k : Nat} (h : hardB k = true) : hards (k + 1) = hards k ++ [(k : Int)] := by rw [hards, if_pos h]
theorem hards_no {k : Nat} (h : hardB k = false) : hards (k + 1) = hards k := by rw [hards, if_neg (by simp [h])]
def HardRel (w : World) (u i : Value) (wr : World) : Prop := ∃ k : Nat, k ≤ 16 ∧ i = .int .i64 k ∧ wr.ownsRow w.heap.size 3 1 u (hards k).length (ints (hards k)) ∧ Below w.heap.size w wr

set_option maxRecDepth 100000 in
set_option maxHeartbeats 4000000 in
theorem hard_any (w : World) :
    Calls Try.prog 38 #[] w fun e w' => (∃ v, e = .returned v ∧ w'.ownsRow w.heap.size 3 1 v (hards 16).length (ints (hards 16))) ∧ Below w.heap.size w w' := by
  go_enter Try.func38, Try.ntmps38
  go_wp2_with fail
  go_loopw [1, 7] (fun u i wr => HardRel w u i wr) (fun _ i _ => (16 - intOf i).toNat)
  case atStart => exact ⟨0, by omega, rfl, ⟨rfl, .inl ⟨rfl, rfl⟩⟩, Below.refl _ _⟩
  case round =>
    obtain ⟨k, hk, rfl, hown, hbel⟩ := hrel
    have hlen := hards_len k
    have hbs := hbel.size
    by_cases h : k < 16
    · have hbs' : w.heap.size ≤ wr.heap.size := hbs
      have HB := hid (hardB_iff k)
      have e1 : bits .and .i64 ((k : Int) / 8) 1 = ((k / 8 % 2 : Nat) : Int) := by rw [i64_and1]; omega
      have e2 : bits .and .i64 ((k : Int) / 4) 1 = ((k / 4 % 2 : Nat) : Int) := by rw [i64_and1]; omega
      have e3 : bits .and .i64 ((k : Int) / 2) 1 = ((k / 2 % 2 : Nat) : Int) := by rw [i64_and1]; omega
      have e4 : bits .and .i64 ((k : Int)) 1 = ((k % 2 : Nat) : Int) := by rw [i64_and1]; omega
      have b1 : k / 8 % 2 ≤ 1 := by omega
      have b2 : k / 4 % 2 ≤ 1 := by omega
      have b3 : k / 2 % 2 ≤ 1 := by omega
      have b4 : k % 2 ≤ 1 := by omega
      generalize k / 8 % 2 = a at *
      generalize k / 4 % 2 = b at *
      generalize k / 2 % 2 = c at *
      generalize k % 2 = d at *
      go_wp2_with (at_builtin; refine wpList_push _ rfl _ _ 24 rfl w.heap.size 3 (.int .i64 0) 1 8 Try.underlying24 Try.info3 rfl (by decide) _ _ _ rfl hown #[.int .i64 k] rfl (oneCell_int _ _) rfl (by unfold maxLen; omega) (by omega) (by omega) ?_; intro g2 gc2 w2 hown2 hg2 hb2)
      all_goals go_roundw
      all_goals first
        | (simp [intOf]; omega)
        | exact ⟨k + 1, by omega, int_eq (by omega), by rw [hards_yes (HB.out.2 ⟨by omega, by omega, by omega, by omega⟩), ints_snoc, List.length_append]; exact hown2, hbel.trans hb2⟩
        | exact ⟨k + 1, by omega, int_eq (by omega), by rw [hards_no (Bool.eq_false_iff.2 (fun e => by have := HB.out.1 e; omega))]; exact hown, hbel⟩
    · go_wp2
      have hk16 : k = 16 := by omega
      subst hk16
      go_ret
      exact ⟨⟨_, rfl, hown⟩, hbel⟩
end Go.Proofs.Ytppflnkadjddiaa
