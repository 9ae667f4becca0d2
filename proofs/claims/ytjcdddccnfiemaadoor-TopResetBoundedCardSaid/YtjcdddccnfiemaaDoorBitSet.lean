/-
  Sets of states as bit masks: the lowest state, the set without it, where a letter leads.
  No condition: plain laws.
-/
import Derived.Lib.TrailingZeros
namespace Go.Proofs.YtjcdddccnfiemaaDoor
set_option linter.unusedVariables false

theorem odd_part {L : Nat} (h0 : 0 < L) (h : L < 2 ^ 64) : ∃ m, L = 2 ^ Lib.ctz 64 L * (2 * m + 1) ∧ Lib.ctz 64 L < 64 := by
  obtain ⟨m, h1, h2⟩ := Lib.ctzFrom_spec 64 L h0 h
  unfold Lib.ctz
  rw [if_neg (by omega)]
  exact ⟨m, h1, h2⟩
/-- A number's lowest bit taken away. -/
theorem drop_low {L : Nat} (h0 : 0 < L) (h : L < 2 ^ 64) (i : Nat) : (L &&& (L - 1)).testBit i = (L.testBit i && decide (i ≠ Lib.ctz 64 L)) := by
  obtain ⟨m, hm, _⟩ := odd_part h0 h
  generalize Lib.ctz 64 L = k at *
  have hk : 0 < 2 ^ k := Nat.two_pow_pos k
  have e1 : L - 1 = 2 ^ k * (2 * m) + (2 ^ k - 1) := by
    rw [hm, Nat.mul_add, Nat.mul_one]
    omega
  rw [Nat.testBit_and, e1, Nat.testBit_two_pow_mul_add _ (by omega), hm, Nat.mul_comm (2 ^ k) (2 * m + 1), Nat.testBit_mul_two_pow]
  by_cases hik : i < k
  · have : ¬ k ≤ i := by omega
    simp [this]
  · rw [if_neg hik]
    obtain ⟨j, rfl⟩ : ∃ j, i = k + j := ⟨i - k, by omega⟩
    rw [Nat.add_sub_cancel_left]
    cases j with
    | zero => simp [Nat.testBit_zero]
    | succ j =>
      rw [Nat.testBit_succ, Nat.testBit_succ, show (2 * m + 1) / 2 = m by omega, show 2 * m / 2 = m by omega]
      simp
theorem low_set {L : Nat} (h0 : 0 < L) (h : L < 2 ^ 64) : L.testBit (Lib.ctz 64 L) = true := by
  obtain ⟨m, hm, _⟩ := odd_part h0 h
  generalize Lib.ctz 64 L = k at *
  rw [hm, Nat.mul_comm, Nat.testBit_mul_two_pow]
  simp [Nat.testBit_zero]
/-- Where the states of S lead. -/
def ImgOf (S : Nat) (f : Nat → Nat) (O : Nat) : Prop := ∀ t, O.testBit t = true ↔ ∃ s, S.testBit s = true ∧ f s = t
/-- The loop: the states that are left, those that are reached. -/
def ImgInv (S : Nat) (f : Nat → Nat) (L O : Nat) : Prop := (∀ s, L.testBit s = true → S.testBit s = true) ∧ ∀ t, O.testBit t = true ↔ ∃ s, S.testBit s = true ∧ L.testBit s = false ∧ f s = t
theorem ImgInv.start (S : Nat) (f : Nat → Nat) : ImgInv S f S 0 := by
  refine ⟨fun _ h => h, fun t => ?_⟩
  rw [Nat.zero_testBit]
  constructor
  · intro h; cases h
  · rintro ⟨s, h1, h2, _⟩; rw [h1] at h2; cases h2
theorem ImgInv.step {S L O : Nat} {f : Nat → Nat} (h : ImgInv S f L O) (h0 : 0 < L) (h64 : L < 2 ^ 64) : ImgInv S f (L &&& (L - 1)) (O ||| 2 ^ f (Lib.ctz 64 L)) := by
  obtain ⟨h1, h2⟩ := h
  have hlow := low_set h0 h64
  refine ⟨fun s hs => ?_, fun t => ?_⟩
  · rw [drop_low h0 h64] at hs
    simp only [Bool.and_eq_true] at hs
    exact h1 s hs.1
  · rw [Nat.testBit_or, Bool.or_eq_true, Nat.testBit_two_pow, h2]
    constructor
    · rintro (⟨s, a, b, c⟩ | e)
      · exact ⟨s, a, by rw [drop_low h0 h64, b]; rfl, c⟩
      · exact ⟨Lib.ctz 64 L, h1 _ hlow, by rw [drop_low h0 h64]; simp, by simpa using e⟩
    · rintro ⟨s, a, b, c⟩
      rw [drop_low h0 h64] at b
      by_cases hs : s = Lib.ctz 64 L
      · right; rw [← hs, c]; simp
      · left
        refine ⟨s, a, ?_, c⟩
        simpa [hs] using b
theorem ImgInv.done {S O : Nat} {f : Nat → Nat} (h : ImgInv S f 0 O) : ImgOf S f O := fun t => by
  rw [h.2]
  simp
theorem ImgOf.uniq {S O O' : Nat} {f : Nat → Nat} (h : ImgOf S f O) (h' : ImgOf S f O') : O = O' := by
  apply Nat.eq_of_testBit_eq
  intro i
  rw [Bool.eq_iff_iff, h i, h' i]
/-- All states. -/
theorem all_bits (n i : Nat) : (2 ^ n - 1).testBit i = decide (i < n) := Nat.testBit_two_pow_sub_one n i
/-- A set that is the image of all states under a constant is one state. -/
theorem img_const {n O t : Nat} {f : Nat → Nat} (hn : 0 < n) (h : ImgOf (2 ^ n - 1) f O) (hc : ∀ s < n, f s = t) : O = 2 ^ t := by
  apply Nat.eq_of_testBit_eq
  intro i
  rw [Nat.testBit_two_pow, Bool.eq_iff_iff, h i]
  constructor
  · rintro ⟨s, a, b⟩
    rw [all_bits] at a
    have hs : s < n := by simpa using a
    rw [hc s hs] at b
    simpa using b
  · intro e
    exact ⟨0, by rw [all_bits]; simpa using hn, by rw [hc 0 hn]; simpa using e⟩
theorem ImgOf.comp {S O O' : Nat} {f g : Nat → Nat} (h : ImgOf S f O) (h' : ImgOf O g O') : ImgOf S (fun s => g (f s)) O' := fun t => by
  rw [h' t]
  constructor
  · rintro ⟨u, a, b⟩
    obtain ⟨s, c, d⟩ := (h u).1 a
    exact ⟨s, c, by show g (f s) = t; rw [d, b]⟩
  · rintro ⟨s, a, b⟩
    exact ⟨f s, (h _).2 ⟨s, a, rfl⟩, b⟩
theorem ImgOf.id (S : Nat) : ImgOf S (fun s => s) S := fun t => by
  constructor
  · intro h; exact ⟨t, h, rfl⟩
  · rintro ⟨s, a, rfl⟩; exact a
end Go.Proofs.YtjcdddccnfiemaaDoor
