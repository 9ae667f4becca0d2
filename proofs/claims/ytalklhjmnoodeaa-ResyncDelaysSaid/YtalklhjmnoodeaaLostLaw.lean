/-
  How many words are lost between two lists: what is left where the common beginning and the common end are taken away.
  No condition: plain laws.
-/
import Derived.Test.YtalklhjmnoodeaaRunLaw
namespace Go.Proofs.Ytalklhjmnoodeaa
open Go.RowKit

/-- Two lists without their common beginning. -/
def cutHead : List Int → List Int → List Int × List Int
  | a :: l, b :: r => if a = b then cutHead l r else (a :: l, b :: r)
  | l, r => (l, r)
theorem cutHead_eq {a : Int} {l r : List Int} : cutHead (a :: l) (a :: r) = cutHead l r := by simp [cutHead]
theorem cutHead_ne {a b : Int} {l r : List Int} (h : a ≠ b) : cutHead (a :: l) (b :: r) = (a :: l, b :: r) := by simp [cutHead, h]
theorem cutHead_nil (r : List Int) : cutHead [] r = ([], r) := by cases r <;> rfl
theorem cutHead_nil2 (l : List Int) : cutHead l [] = (l, []) := by cases l <;> rfl
theorem cutHead_len (l r : List Int) : (cutHead l r).1.length ≤ l.length ∧ (cutHead l r).2.length ≤ r.length ∧ (cutHead l r).1.length + r.length = (cutHead l r).2.length + l.length := by
  induction l generalizing r with
  | nil => rw [cutHead_nil]; simp
  | cons a l ih =>
    cases r with
    | nil => rw [cutHead_nil2]; simp
    | cons b r =>
      by_cases e : a = b
      · subst e
        rw [cutHead_eq]
        have := ih r
        simp only [List.length_cons]
        omega
      · rw [cutHead_ne e]; simp only [List.length_cons]; omega
theorem cutHead_self (l : List Int) : cutHead l l = ([], []) := by
  induction l with
  | nil => rfl
  | cons a l ih => rw [cutHead_eq, ih]
theorem cutHead_swap (l r : List Int) : cutHead r l = ((cutHead l r).2, (cutHead l r).1) := by
  induction l generalizing r with
  | nil => rw [cutHead_nil, cutHead_nil2]
  | cons a l ih =>
    cases r with
    | nil => rw [cutHead_nil, cutHead_nil2]
    | cons b r =>
      by_cases e : a = b
      · subst e; rw [cutHead_eq, cutHead_eq, ih]
      · rw [cutHead_ne e, cutHead_ne (Ne.symm e)]
theorem cutHead_zero {l r : List Int} (h : cutHead l r = ([], [])) : l = r := by
  induction l generalizing r with
  | nil => rw [cutHead_nil] at h; simp only [Prod.mk.injEq, true_and] at h; exact h.symm
  | cons a l ih =>
    cases r with
    | nil => rw [cutHead_nil2] at h; simp at h
    | cons b r =>
      by_cases e : a = b
      · subst e; rw [cutHead_eq] at h; rw [ih h]
      · rw [cutHead_ne e] at h; simp at h
def swp (p : List Int × List Int) : List Int × List Int := cutHead p.1.reverse p.2.reverse
/-- What is left of both. -/
def lostL (l r : List Int) : List Int × List Int := swp (cutHead l r)
def lostA (l r : List Int) : Nat := (lostL l r).1.length
def lostB (l r : List Int) : Nat := (lostL l r).2.length
theorem lost_swap (l r : List Int) : lostA l r = lostB r l ∧ lostB l r = lostA r l := by
  unfold lostA lostB lostL swp
  rw [cutHead_swap r l]
  constructor
  · rw [cutHead_swap (cutHead r l).1.reverse]
  · rw [cutHead_swap (cutHead r l).1.reverse]
theorem lost_self (l : List Int) : lostA l l = 0 ∧ lostB l l = 0 := by
  unfold lostA lostB lostL swp
  rw [cutHead_self]
  exact ⟨rfl, rfl⟩
theorem lost_len (l r : List Int) : lostA l r ≤ l.length ∧ lostB l r ≤ r.length ∧ lostA l r + r.length = lostB l r + l.length := by
  have h1 := cutHead_len l r
  have h2 := cutHead_len (cutHead l r).1.reverse (cutHead l r).2.reverse
  unfold lostA lostB lostL swp
  simp only [List.length_reverse] at h2
  omega
theorem lost_zero {l r : List Int} (h : lostA l r = 0) (h2 : lostB l r = 0) : l = r := by
  unfold lostA lostB lostL swp at *
  have e : cutHead (cutHead l r).1.reverse (cutHead l r).2.reverse = ([], []) := by
    rw [List.length_eq_zero_iff] at h h2
    exact Prod.ext h h2
  have e2 := cutHead_zero e
  have e3 : (cutHead l r).1 = (cutHead l r).2 := List.reverse_inj.1 e2
  -- a common list that is not empty would begin alike
  have key : ∀ l r : List Int, (cutHead l r).1 = (cutHead l r).2 → cutHead l r = ([], []) := by
    intro l
    induction l with
    | nil => intro r h; rw [cutHead_nil] at h ⊢; simp only at h; rw [← h]
    | cons a l ih =>
      intro r h
      cases r with
      | nil => rw [cutHead_nil2] at h; simp at h
      | cons b r =>
        by_cases e : a = b
        · subst e; rw [cutHead_eq] at h ⊢; exact ih r h
        · rw [cutHead_ne e] at h; simp only [List.cons.injEq] at h; exact absurd h.1 e
  exact cutHead_zero (key l r e3)
/-- One step of either walk. -/
theorem swp_last {l r : List Int} {a : Int} : swp (l ++ [a], r ++ [a]) = swp (l, r) := by simp [swp, cutHead_eq]
theorem swp_ne {l r : List Int} {a b : Int} (h : a ≠ b) : ((swp (l ++ [a], r ++ [b])).1.length = (l ++ [a]).length) ∧ ((swp (l ++ [a], r ++ [b])).2.length = (r ++ [b]).length) := by simp [swp, cutHead_ne h]
theorem swp_nil (r : List Int) : (swp ([], r)).1.length = 0 ∧ (swp ([], r)).2.length = r.length := by simp [swp, cutHead_nil]
theorem swp_nil2 (l : List Int) : (swp (l, [])).1.length = l.length ∧ (swp (l, [])).2.length = 0 := by simp [swp, cutHead_nil2]
end Go.Proofs.Ytalklhjmnoodeaa
