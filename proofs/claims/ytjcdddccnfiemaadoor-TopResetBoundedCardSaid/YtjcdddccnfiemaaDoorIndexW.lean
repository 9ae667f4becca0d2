/-
  slices.Index at words; the letters of the alphabets one by one.
  No condition.
-/
import Derived.Test.YtjcdddccnfiemaaDoorWordCk
import Derived.Lib.SlicesS
namespace Go.Proofs.YtjcdddccnfiemaaDoor
open Go.RowKit
set_option linter.unusedVariables false

theorem idxFrom_eq (l : List ByteArray) (x : ByteArray) (i : Nat) : Lib.idxFromS l x i = if idxW l x < 0 then -1 else idxW l x + i := by
  induction l generalizing i with
  | nil => simp [Lib.idxFromS, idxW]
  | cons y r ih =>
    rw [Lib.idxFromS, idxW, ih]
    by_cases e : y = x
    · rw [if_pos e, if_pos e]; simp
    · rw [if_neg e, if_neg e]
      by_cases h : idxW r x < 0
      · rw [if_pos h, if_pos h]; rfl
      · rw [if_neg h, if_neg h, if_neg (by omega)]; omega
theorem idxOf_eq (l : List ByteArray) (x : ByteArray) : Lib.idxOfS l x = idxW l x := by
  rw [Lib.idxOfS, idxFrom_eq]
  have := (idxW_low l x).1
  split <;> omega
theorem indexW_any (v : Value) (ws : List ByteArray) (x : ByteArray) (w : World) (hl : Sl 1 w v ws.length (strs ws)) :
    Calls Tryd.prog 54 #[v, .string x] w fun e w' => e = .returned (.int .i64 (idxW ws x)) ∧ w = w' := by
  obtain ⟨ao, cap, rfl, _, h1, h2, h3⟩ := hl
  by_cases h0 : ws.length = 0
  · have e : ws = [] := List.length_eq_zero_iff.1 h0
    subst e
    refine (Tryd.slices_Index_string_empty ao cap x w).mono ?_
    rintro e w' ⟨rfl, rfl⟩
    exact ⟨rfl, rfl⟩
  · rcases h3 with h3 | ⟨b, o, rfl, hc⟩
    · omega
    · refine (Tryd.slices_Index_string b o ws.length cap ws x w (Nat.le_refl _) (by omega) fun j hj => ?_).mono ?_
      · obtain ⟨y, hy⟩ := some_of_lt hj
        rw [hc j _ (strs_get hy), List.getD_eq_getElem?_getD, hy]; rfl
      · rintro e w' ⟨rfl, rfl⟩
        exact ⟨ret_int (by rw [List.take_length, idxOf_eq]), rfl⟩
theorem letter_at {a : Nat} (h : a < 16) : (⟨#[48, 49, 50, 51, 52, 53, 54, 55, 56, 57, 97, 98, 99, 100, 101, 102]⟩ : ByteArray).extract a (a + 1) = letW a := by
  apply ba_ext
  rw [Lib.extract_data]
  have h2 : (List.range 16).all (fun a => (lettersL.drop a).take (a + 1 - a) == [lettersL.getD a 0]) = true := by decide
  have h3 := List.all_eq_true.1 h2 a (List.mem_range.2 h)
  have h4 := beq_iff_eq.1 h3
  simp only [letW]
  exact h4
theorem letW_size (a : Nat) : (letW a).size = 1 := rfl
theorem digit_letW {a : Nat} (h : a < 16) : digit (lettersL.getD a 0) = a ∧ (letW a).data.toList = [lettersL.getD a 0] := by
  refine ⟨?_, rfl⟩
  have h2 : (List.range 16).all (fun a => digit (lettersL.getD a 0) == (a : Int)) = true := by decide
  exact beq_iff_eq.1 (List.all_eq_true.1 h2 a (List.mem_range.2 h))
end Go.Proofs.YtjcdddccnfiemaaDoor
