/-
  Euclid's algorithm: the pairs, and how many there are.
  No condition: no program in sight.
-/
namespace Go.Proofs.YtieahckbbohfgaaGreatDoor
set_option linter.unusedVariables false

/-- The pairs of Euclid's algorithm. -/
def eu (a b : Nat) : Nat → Nat × Nat
  | 0 => (a, b)
  | k + 1 => ((eu a b k).2, (eu a b k).1 % (eu a b k).2)
theorem eu_shift (a b : Nat) : ∀ k, eu a b (k + 1) = eu b (a % b) k
  | 0 => rfl
  | k + 1 => by rw [eu, eu_shift a b k]; rfl
/-- The first pair whose second number is 0. -/
theorem eu_end : ∀ (b a : Nat), ∃ n, (∀ k, k < n → (eu a b k).2 ≠ 0) ∧ eu a b n = (Nat.gcd a b, 0) := by
  intro b
  induction b using Nat.strongRecOn with
  | _ b ih =>
    intro a
    by_cases hb : b = 0
    · subst hb
      exact ⟨0, fun k hk => by omega, by simp [eu]⟩
    · obtain ⟨n, h1, h2⟩ := ih (a % b) (Nat.mod_lt _ (by omega)) b
      refine ⟨n + 1, fun k hk => ?_, ?_⟩
      · cases k with
        | zero => exact hb
        | succ k => rw [eu_shift]; exact h1 k (by omega)
      · rw [eu_shift, h2, Nat.gcd_comm b (a % b), ← Nat.gcd_rec, Nat.gcd_comm]
theorem eu_lt {a b M : Nat} (ha : a < M) (hb : b < M) : ∀ k, (eu a b k).1 < M ∧ (eu a b k).2 < M
  | 0 => ⟨ha, hb⟩
  | k + 1 => by
    obtain ⟨h1, h2⟩ := eu_lt ha hb k
    refine ⟨h2, ?_⟩
    show (eu a b k).1 % (eu a b k).2 < M
    exact Nat.lt_of_le_of_lt (Nat.mod_le _ _) h1
end Go.Proofs.YtieahckbbohfgaaGreatDoor
