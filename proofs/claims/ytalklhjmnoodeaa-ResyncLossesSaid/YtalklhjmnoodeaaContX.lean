/-
  strings.Contains at the letter x, and a word over the letters 0 to f.
  The word is one over the letters.
-/
import Derived.Test.YtalklhjmnoodeaaShelfC
import Derived.Test.YtalklhjmnoodeaaWordCk
namespace Go.Proofs.Ytalklhjmnoodeaa
open Go.RowKit
set_option linter.unusedVariables false

theorem noX_list {l : List UInt8} (h : ∀ c ∈ l, 0 ≤ digit c) : Lib.indexByte l 120 = -1 := by
  induction l with
  | nil => rfl
  | cons b l ih =>
    have hb := h b (by simp)
    have e : (b == 120) = false := by
      rw [beq_eq_false_iff_ne]
      rintro rfl
      have : digit 120 = -1 := by decide
      omega
    rw [Lib.indexByte, ih (fun c hc => h c (by simp [hc])), e]
    rfl
theorem noX {q : Int} {x : ByteArray} (h : okWord q x = true) : Lib.indexByte x.data.toList 120 = -1 := noX_list fun c hc => (okWord_at h hc).1
set_option maxHeartbeats 1000000 in
theorem contX_any {q : Int} (x : ByteArray) (w : World) (h : okWord q x = true) :
    Calls Try.prog 32 #[.string x, .string ⟨#[120]⟩] w fun e w' => e = .returned (.bool false) ∧ w = w' := by
  have HI := hid (fun X => Try.stringslite_IndexByte x 120 X)
  rw [show ((120 : Int).toNat.toUInt8) = 120 from rfl, noX h] at HI
  have hb : (([120] : List UInt8) == x.toList) = false := by
    rw [beq_eq_false_iff_ne, Lib.toList_data]
    intro e
    have := noX h
    rw [← e] at this
    exact absurd this (by decide)
  have HJ := hid (show ∀ X, Calls Try.prog 72 #[.string x, .string ⟨#[120]⟩] X fun e w' => e = .returned (.int .i64 (-1)) ∧ X = w' from fun X => by
    go_enter Try.func72, Try.ntmps72
    go_wp2_with (go_at_call 68; refine (HI.out _).mono ?_; rintro e w' ⟨rfl, rfl⟩)
    go_ret
    exact ⟨rfl, rfl⟩)
  have HK := hid (show ∀ X, Calls Try.prog 54 #[.string x, .string ⟨#[120]⟩] X fun e w' => e = .returned (.int .i64 (-1)) ∧ X = w' from fun X => by
    go_enter Try.func54, Try.ntmps54
    go_wp2_with (go_at_call 72; refine (HJ.out _).mono ?_; rintro e w' ⟨rfl, rfl⟩)
    go_ret
    exact ⟨rfl, rfl⟩)
  go_enter Try.func32, Try.ntmps32
  go_wp2_with (go_at_call 54; refine (HK.out _).mono ?_; rintro e w' ⟨rfl, rfl⟩)
  go_ret
  exact ⟨rfl, rfl⟩
end Go.Proofs.Ytalklhjmnoodeaa
