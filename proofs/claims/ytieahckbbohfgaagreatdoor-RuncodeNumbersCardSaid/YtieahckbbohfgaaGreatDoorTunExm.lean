/-
  The steps of the Tunstall code of the example, in plain Lean.
  No condition.
-/
import Derived.Test.YtieahckbbohfgaaGreatDoorTunSor
namespace Go.Proofs.YtieahckbbohfgaaGreatDoor
open Go.RowKit Go.Deep
set_option linter.unusedVariables false

def exOne : Lk := ⟨⟨#[]⟩, 1, 1⟩
def exI (k : Nat) : Nat := if k = 0 then 0 else 1
def exSt : Nat → List Lk
  | 0 => extK exOne 2
  | k + 1 => (exSt k).eraseIdx (exI k) ++ extK ((exSt k).getD (exI k) default) 2
instance (x : Lk) : Decidable x.ok := by unfold Lk.ok; exact inferInstance
def exW : List ByteArray := [⟨#[49]⟩, ⟨#[48, 49]⟩, ⟨#[48, 48, 48]⟩, ⟨#[48, 48, 49]⟩]
theorem exSt_facts : ∀ k, k < 2 → (exSt k).length = k + 2 ∧ bestK (exSt k) (k + 2) = exI k ∧ exI k < k + 2 ∧ ((exSt k).getD (exI k) default).word.size ≤ 31 ∧ Cop ((exSt k).getD (exI k) default).n ((exSt k).getD (exI k) default).d ∧ (∀ j < 2, Sml ((exSt k).getD (exI k) default).n ((exSt k).getD (exI k) default).d (exP.getD j (0, 1)).1 (exP.getD j (0, 1)).2) ∧ (∀ y ∈ exSt k, y.ok) := by
  decide +kernel
theorem exSt_one : (∀ j < 2, Sml exOne.n exOne.d (exP.getD j (0, 1)).1 (exP.getD j (0, 1)).2) ∧ Cop exOne.n exOne.d := by decide +kernel
theorem exSt_two : (exSt 2).length = 4 := by decide +kernel
theorem exSt_words : sortW ((exSt 2).map Lk.word) = exW := by rfl
theorem exSt_nodup : ((exSt 2).map Lk.word).Nodup := by decide +kernel
theorem exSt_step (k : Nat) : lkcells (exSt (k + 1)) = lkcells ((exSt k).eraseIdx (exI k)) ++ lkcells (extK ((exSt k).getD (exI k) default) 2) := by rw [exSt, lkcells_app]
end Go.Proofs.YtieahckbbohfgaaGreatDoor
