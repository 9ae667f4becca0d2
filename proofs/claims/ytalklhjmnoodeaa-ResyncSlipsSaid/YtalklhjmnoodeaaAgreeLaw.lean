/-
  When two machines agree: from the first number on, and not before; a word with another letter at a place, or without it.
  No condition: plain laws.
-/
import Derived.Test.YtalklhjmnoodeaaRunLaw
namespace Go.Proofs.Ytalklhjmnoodeaa
open Go.RowKit

theorem agree_cases {nx : Nat → Nat → Nat} {s t j : Nat} {l : List UInt8} (hj : j ≤ l.length) :
    (agAt nx s t l j = true ∧ ∃ n, agreeN nx s t l = some n ∧ n ≤ j) ∨ (agAt nx s t l j = false ∧ ∀ n, agreeN nx s t l = some n → j < n) := by
  cases h : agreeN nx s t l with
  | none =>
    right
    exact ⟨firstN_none.1 h j (by omega), fun n hn => by cases hn⟩
  | some n =>
    obtain ⟨h1, h2, h3⟩ := firstN_some.1 h
    by_cases g : n ≤ j
    · left; exact ⟨ag_stay h2 g, n, rfl, g⟩
    · right; exact ⟨h3 j (by omega), fun m hm => by cases hm; omega⟩
theorem agAt_symm (nx : Nat → Nat → Nat) (s t : Nat) (l : List UInt8) (j : Nat) : agAt nx t s l j = agAt nx s t l j := by
  unfold agAt; rw [Bool.eq_iff_iff, beq_iff_eq, beq_iff_eq]; exact eq_comm
theorem take_mid {l r : List UInt8} {i k : Nat} (h : l.length = i) (hk : i ≤ k) : (l ++ r).take k = l ++ r.take (k - i) := by
  rw [List.take_append, h, List.take_of_length_le (by omega)]
/-- Two words that are the same behind a place, read up to a place behind it. -/
theorem run_behind (nx : Nat → Nat → Nat) {l1 l2 r : List UInt8} {i1 i2 k1 k2 j : Nat} (h1 : l1.length = i1) (h2 : l2.length = i2) (hk1 : k1 = i1 + j) (hk2 : k2 = i2 + j) :
    (runN nx 0 ((l1 ++ r).take k1) == runN nx 0 ((l2 ++ r).take k2)) = agAt nx (runN nx 0 l1) (runN nx 0 l2) r j := by
  rw [take_mid h1 (by omega), take_mid h2 (by omega), runN_append, runN_append, show k1 - i1 = j by omega, show k2 - i2 = j by omega]
  rfl
end Go.Proofs.Ytalklhjmnoodeaa
