/-
  slices.ContainsFunc over strings, at the law's own function.
  No condition.
-/
import Derived.Test.YtppflnkadjddiaaLib
import Derived.Test.YtppflnkadjddiaaProg
namespace Go.Proofs.Ytppflnkadjddiaa
open Go.RowKit
set_option linter.unusedVariables false

theorem clos_any (B k cap : Nat) (ao : Option Addr) (s : ByteArray) (w : World) (hc : w.cell? ⟨B, 0, none⟩ = some (.slice ao k cap)) :
    Calls Try.prog 17 #[.string s, .pointer (some ⟨B, 0, none⟩)] w fun e w' => e = .returned (.bool ((s.size : Int) != (k : Int))) ∧ w = w' := by
  go_enter Try.func17, Try.ntmps17
  go_wp2
  go_ret
  exact ⟨rfl, rfl⟩

def firstBad (k : Nat) : Nat → List ByteArray → Int
  | _, [] => -1
  | i, r :: t => if r.size = k then firstBad k (i + 1) t else (i : Int)
theorem firstBad_any (k i : Nat) (l : List ByteArray) : decide (0 ≤ firstBad k i l) = l.any (fun r => decide (r.size ≠ k)) := by
  induction l generalizing i with
  | nil => simp [firstBad]
  | cons r t ih =>
    rw [firstBad, List.any_cons]
    split
    · rename_i h; rw [ih]; simp [h]
    · rename_i h; simp [h]
def IdxRel (k : Nat) (rows : List ByteArray) (i : Value) : Prop := ∃ j : Nat, j ≤ rows.length ∧ i = .int .i64 j ∧ firstBad k j (rows.drop j) = firstBad k 0 rows

set_option maxRecDepth 100000 in
set_option maxHeartbeats 2000000 in
theorem index_any (B k cap2 : Nat) (ao2 : Option Addr) (v : Value) (rows : List ByteArray) (w : World) (hl : Sl 1 w v rows.length (strs rows)) (hc : w.cell? ⟨B, 0, none⟩ = some (.slice ao2 k cap2)) :
    Calls Try.prog 43 #[v, .func (.func 17) #[] #[.pointer (some ⟨B, 0, none⟩)]] w fun e w' => e = .returned (.int .i64 (firstBad k 0 rows)) ∧ w = w' := by
  have HS := hid hl
  obtain ⟨ao, cap, rfl, _, hc1, hm1, hs⟩ := hl
  clear hs
  go_enter Try.func43, Try.ntmps43
  go_wp2
  go_loop [8] (fun i => IdxRel k rows i) (fun i => (rows.length - intOf i).toNat)
  case atStart => exact ⟨0, by omega, rfl, rfl⟩
  case round =>
    obtain ⟨j, hj, rfl, hF⟩ := hrel
    have HF := hid hF
    clear hF
    by_cases h : j < rows.length
    · obtain ⟨x, hx⟩ := some_of_lt h
      obtain ⟨b, o, rfl, c1⟩ := HS.out.cell (strs_get hx)
      have HD := hid (drop_cons hx)
      clear hx
      have hcl := clos_any B k cap2 ao2 x w hc
      by_cases hxk : x.size = k
      · have hb : ((x.size : Int) != (k : Int)) = false := by simp [hxk]
        rw [hb] at hcl
        go_wp2_with (refine hcl.mono ?_; rintro e w1 ⟨rfl, rfl⟩)
        refine ⟨⟨j + 1, by omega, int_eq (by omega), ?_⟩, by simp [intOf]; omega⟩
        rw [← HF.out, HD.out, firstBad, if_pos hxk]
      · have hb : ((x.size : Int) != (k : Int)) = true := by rw [bne_iff_ne]; omega
        rw [hb] at hcl
        go_wp2_with (refine hcl.mono ?_; rintro e w1 ⟨rfl, rfl⟩)
        go_ret
        exact ⟨ret_int (by rw [← HF.out, HD.out, firstBad, if_neg hxk]), rfl⟩
    · obtain rfl : j = rows.length := by omega
      go_wp2
      go_ret
      exact ⟨ret_int (by rw [← HF.out, drop_all (Nat.le_refl _)]; rfl), rfl⟩

theorem contains_any (B k cap2 : Nat) (ao2 : Option Addr) (v : Value) (rows : List ByteArray) (w : World) (hl : Sl 1 w v rows.length (strs rows)) (hc : w.cell? ⟨B, 0, none⟩ = some (.slice ao2 k cap2)) :
    Calls Try.prog 16 #[v, .func (.func 17) #[] #[.pointer (some ⟨B, 0, none⟩)]] w fun e w' => e = .returned (.bool (rows.any (fun r => decide (r.size ≠ k)))) ∧ w = w' := by
  have hI := index_any B k cap2 ao2 v rows w hl hc
  have HF := hid (firstBad_any k 0 rows)
  generalize firstBad k 0 rows = F at *
  generalize rows.any (fun r => decide (r.size ≠ k)) = A at *
  clear hl hc
  go_enter Try.func16, Try.ntmps16
  go_wp2_with (refine hI.mono ?_; rintro e w1 ⟨rfl, rfl⟩)
  go_ret
  exact ⟨ret_bool HF.out, rfl⟩
end Go.Proofs.Ytppflnkadjddiaa
