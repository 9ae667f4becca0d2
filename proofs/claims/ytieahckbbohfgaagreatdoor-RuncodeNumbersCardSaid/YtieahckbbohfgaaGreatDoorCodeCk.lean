/-
  code.before, code.Check, code.Prefix and parser.prefix: the order of words, why a code is not valid, whether it is a prefix code.
  No condition beyond the words lying in a slice.
-/
import Derived.Test.YtieahckbbohfgaaGreatDoorWordCk
namespace Go.Proofs.YtieahckbbohfgaaGreatDoor
open Go.RowKit
set_option linter.unusedVariables false

/-- The first of two numbers that is not 0. -/
def orI (x y : Int) : Int := if x = 0 then y else x
theorem orI_ne {x : Int} (y : Int) (h : ¬ x = 0) : orI x y = x := by rw [orI, if_neg h]
theorem orI_zero (y : Int) : orI 0 y = y := by rw [orI, if_pos rfl]
theorem or2 (x y : Int) (b : Nat) (w : World) (hx : w.cell? ⟨b, 0, none⟩ = some (.int .i64 x)) (hy : w.cell? ⟨b, 1, none⟩ = some (.int .i64 y)) :
    Calls Tryz.prog 57 #[.slice (some ⟨b, 0, none⟩) 2 2] w fun e w' => e = .returned (.int .i64 (orI x y)) ∧ w = w' := by
  go_enter Tryz.func57, Tryz.ntmps57
  go_wp2
  go_loop [8] (fun i => i = .int .i64 0 ∨ (i = .int .i64 1 ∧ x = 0) ∨ (i = .int .i64 2 ∧ x = 0 ∧ y = 0)) (fun i => 2 - (intOf i).toNat)
  case atStart => exact .inl rfl
  case round =>
    rcases hrel with rfl | ⟨rfl, h0⟩ | ⟨rfl, h0, h1⟩
    · by_cases hx0 : x = 0
      · have hb : (x != 0) = false := by simp [hx0]
        have HX := hid hx0
        clear hx0
        go_wp2
        go_round
        case rel => exact .inr (.inl ⟨rfl, HX.out⟩)
        case measure => simp [intOf]
      · have hb : (x != 0) = true := by simp [hx0]
        have HX := hid hx0
        clear hx0
        go_wp2
        go_ret
        exact ⟨ret_int (orI_ne _ HX.out).symm, rfl⟩
    · subst h0
      by_cases hx0 : y = 0
      · have hb : (y != 0) = false := by simp [hx0]
        have HX := hid hx0
        clear hx0
        go_wp2
        go_round
        case rel => exact .inr (.inr ⟨rfl, trivial, HX.out⟩)
        case measure => simp [intOf]
      · have hb : (y != 0) = true := by simp [hx0]
        have HX := hid hx0
        clear hx0
        go_wp2
        go_ret
        exact ⟨ret_int (orI_zero _).symm, rfl⟩
    · subst h0 h1
      go_wp2
      go_ret
      exact ⟨ret_int (orI_zero _).symm, rfl⟩

theorem cmpW_or (a b : ByteArray) : orI (Lib.compareInt a.size b.size) (Lib.compareBytes a.data.toList b.data.toList) = cmpW a b := by
  unfold orI Lib.compareInt cmpW
  by_cases h1 : a.size < b.size
  · rw [if_pos (show (a.size : Int) < b.size by omega), if_pos h1]; rfl
  · by_cases h2 : b.size < a.size
    · rw [if_neg (show ¬ (a.size : Int) < b.size by omega), if_pos (show (a.size : Int) > b.size by omega), if_neg h1, if_pos h2]; rfl
    · rw [if_neg (show ¬ (a.size : Int) < b.size by omega), if_neg (show ¬ (a.size : Int) > b.size by omega), if_neg h1, if_neg h2]; rfl

/-- A code among the arguments: its words lie in a slice. -/
theorem empty_eq (s : ByteArray) : s.toList.isEmpty = decide (s.size = 0) := by
  rw [Bool.eq_iff_iff, List.isEmpty_iff, decide_eq_true_iff, Lib.toList_data]
  rw [← ba_len s]
  exact List.length_eq_zero_iff.symm
def prevW (l : List ByteArray) (k : Nat) : Option ByteArray := if k = 0 then none else l[k-1]?
theorem prevW_succ {l : List ByteArray} {k : Nat} {x : ByteArray} (h : l[k]? = some x) : prevW l (k + 1) = some x := by simp [prevW, h]
theorem codeGo_empty {q : Int} {p : Option ByteArray} {x : ByteArray} {r : List ByteArray} (h : x.size = 0) : codeGo q p (x :: r) = 5 := by rw [codeGo, if_pos h]
theorem codeGo_long {q : Int} {p : Option ByteArray} {x : ByteArray} {r : List ByteArray} (h : ¬ x.size = 0) (h1 : 32 < x.size) : codeGo q p (x :: r) = 4 := by rw [codeGo, if_neg h, if_pos h1]
theorem codeGo_word {q : Int} {p : Option ByteArray} {x : ByteArray} {r : List ByteArray} (h : ¬ x.size = 0) (h1 : ¬ 32 < x.size) (h2 : wordErr q x ≠ 0) : codeGo q p (x :: r) = 13 := by rw [codeGo, if_neg h, if_neg h1, if_pos h2]
theorem codeGo_order {q : Int} {y x : ByteArray} {r : List ByteArray} (h : ¬ x.size = 0) (h1 : ¬ 32 < x.size) (h2 : wordErr q x = 0) (h3 : 0 ≤ cmpW y x) : codeGo q (some y) (x :: r) = 10 := by
  rw [codeGo, if_neg h, if_neg h1, if_neg (by simp [h2]), if_pos (by simp [lessW]; omega)]
theorem codeGo_next {q : Int} {y x : ByteArray} {r : List ByteArray} (h : ¬ x.size = 0) (h1 : ¬ 32 < x.size) (h2 : wordErr q x = 0) (h3 : ¬ 0 ≤ cmpW y x) : codeGo q (some y) (x :: r) = codeGo q (some x) r := by
  rw [codeGo, if_neg h, if_neg h1, if_neg (by simp [h2]), if_neg (by simp [lessW]; omega)]
theorem codeGo_first {q : Int} {x : ByteArray} {r : List ByteArray} (h : ¬ x.size = 0) (h1 : ¬ 32 < x.size) (h2 : wordErr q x = 0) : codeGo q none (x :: r) = codeGo q (some x) r := by
  rw [codeGo, if_neg h, if_neg h1, if_neg (by simp [h2]), if_neg (by simp)]

end Go.Proofs.YtieahckbbohfgaaGreatDoor
