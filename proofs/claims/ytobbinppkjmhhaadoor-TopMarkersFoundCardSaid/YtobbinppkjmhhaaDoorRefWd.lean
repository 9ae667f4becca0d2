/-
  The reference's words: the number of a letter, why a word is not valid.
  No condition.
-/
import Derived.Test.YtobbinppkjmhhaaDoorWordCk
import Derived.Deep.QuietTactic
namespace Go.Proofs.YtobbinppkjmhhaaDoor
open Go.RowKit
set_option linter.unusedVariables false

def dig0 (c : UInt8) : Nat := (digit c).toNat
theorem letter_dig0 {c : UInt8} (h : 0 ≤ digit c) : lettersL.getD (dig0 c) 0 = c := by
  have key : ∀ (l : List UInt8) (c : UInt8), 0 ≤ Lib.indexByte l c → l.getD (Lib.indexByte l c).toNat 0 = c := by
    intro l
    induction l with
    | nil => intro c h; simp [Lib.indexByte] at h
    | cons b l ih =>
      intro c h
      rw [Lib.indexByte] at h ⊢
      by_cases hb : (b == c) = true
      · rw [if_pos hb]; simpa using hb
      · rw [if_neg hb] at h ⊢
        by_cases hi : (Lib.indexByte l c == -1) = true
        · rw [if_pos hi] at h; omega
        · rw [if_neg hi] at h ⊢
          have hlow := (ib_low l c).1
          have hne : Lib.indexByte l c ≠ -1 := by simpa using hi
          have := ih c (by omega)
          rw [show (Lib.indexByte l c + 1).toNat = (Lib.indexByte l c).toNat + 1 by omega]
          simpa using this
  exact key lettersL c h
theorem next_digit {c : UInt8} {k : Nat} (h : ∀ j < k, lettersL.getD j 0 ≠ c) (hc : ¬ lettersL.getD k 0 = c) : ∀ j < k + 1, lettersL.getD j 0 ≠ c := fun j hj => by
  by_cases e : j = k
  · subst e; exact hc
  · exact h j (by omega)
theorem digit_letter {a : Nat} (h : a < 16) : digit (lettersL.getD a 0) = a := by
  have h2 := List.all_eq_true.1 (show (List.range 16).all (fun a => digit (lettersL.getD a 0) == (a : Int)) = true by decide) a (List.mem_range.2 h)
  simpa using h2
theorem digit_at {c : UInt8} {k : Nat} (hk : k < 16) (h : ∀ j < k, lettersL.getD j 0 ≠ c) (he : lettersL.getD k 0 = c) : digit c = k := by
  have h1 := digit_letter hk
  rw [he] at h1
  exact h1
theorem digit_none {c : UInt8} (h : ∀ j < 16, lettersL.getD j 0 ≠ c) : digit c = -1 := by
  by_cases g : 0 ≤ digit c
  · have := (digit_low c).2
    exact absurd (letter_dig0 g) (h _ (by unfold dig0; omega))
  · have := (digit_low c).1
    omega
end Go.Proofs.YtobbinppkjmhhaaDoor
