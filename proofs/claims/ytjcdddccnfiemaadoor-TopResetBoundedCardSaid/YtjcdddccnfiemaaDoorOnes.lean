/-
  math/bits.OnesCount64 at a power of two; reset.single.
  No condition beyond the number being a power of two below 2^16.
-/
import Derived.Test.YtjcdddccnfiemaaDoorProg
import Derived.Test.YtjcdddccnfiemaaDoorLib
namespace Go.Proofs.YtjcdddccnfiemaaDoor
open Go.RowKit
set_option linter.unusedVariables false

set_option maxRecDepth 100000 in
theorem onesP0 (w : World) : Calls Tryd.prog 63 #[.int .u64 1] w fun e w' => e = .returned (.int .i64 1) ∧ w = w' := by
  go_enter Tryd.func63, Tryd.ntmps63
  go_wp2
  go_ret
  exact ⟨by kernel_rfl, rfl⟩
set_option maxRecDepth 100000 in
theorem onesP1 (w : World) : Calls Tryd.prog 63 #[.int .u64 2] w fun e w' => e = .returned (.int .i64 1) ∧ w = w' := by
  go_enter Tryd.func63, Tryd.ntmps63
  go_wp2
  go_ret
  exact ⟨by kernel_rfl, rfl⟩
set_option maxRecDepth 100000 in
theorem onesP2 (w : World) : Calls Tryd.prog 63 #[.int .u64 4] w fun e w' => e = .returned (.int .i64 1) ∧ w = w' := by
  go_enter Tryd.func63, Tryd.ntmps63
  go_wp2
  go_ret
  exact ⟨by kernel_rfl, rfl⟩
set_option maxRecDepth 100000 in
theorem onesP3 (w : World) : Calls Tryd.prog 63 #[.int .u64 8] w fun e w' => e = .returned (.int .i64 1) ∧ w = w' := by
  go_enter Tryd.func63, Tryd.ntmps63
  go_wp2
  go_ret
  exact ⟨by kernel_rfl, rfl⟩
set_option maxRecDepth 100000 in
theorem onesP4 (w : World) : Calls Tryd.prog 63 #[.int .u64 16] w fun e w' => e = .returned (.int .i64 1) ∧ w = w' := by
  go_enter Tryd.func63, Tryd.ntmps63
  go_wp2
  go_ret
  exact ⟨by kernel_rfl, rfl⟩
set_option maxRecDepth 100000 in
theorem onesP5 (w : World) : Calls Tryd.prog 63 #[.int .u64 32] w fun e w' => e = .returned (.int .i64 1) ∧ w = w' := by
  go_enter Tryd.func63, Tryd.ntmps63
  go_wp2
  go_ret
  exact ⟨by kernel_rfl, rfl⟩
set_option maxRecDepth 100000 in
theorem onesP6 (w : World) : Calls Tryd.prog 63 #[.int .u64 64] w fun e w' => e = .returned (.int .i64 1) ∧ w = w' := by
  go_enter Tryd.func63, Tryd.ntmps63
  go_wp2
  go_ret
  exact ⟨by kernel_rfl, rfl⟩
set_option maxRecDepth 100000 in
theorem onesP7 (w : World) : Calls Tryd.prog 63 #[.int .u64 128] w fun e w' => e = .returned (.int .i64 1) ∧ w = w' := by
  go_enter Tryd.func63, Tryd.ntmps63
  go_wp2
  go_ret
  exact ⟨by kernel_rfl, rfl⟩
set_option maxRecDepth 100000 in
theorem onesP8 (w : World) : Calls Tryd.prog 63 #[.int .u64 256] w fun e w' => e = .returned (.int .i64 1) ∧ w = w' := by
  go_enter Tryd.func63, Tryd.ntmps63
  go_wp2
  go_ret
  exact ⟨by kernel_rfl, rfl⟩
set_option maxRecDepth 100000 in
theorem onesP9 (w : World) : Calls Tryd.prog 63 #[.int .u64 512] w fun e w' => e = .returned (.int .i64 1) ∧ w = w' := by
  go_enter Tryd.func63, Tryd.ntmps63
  go_wp2
  go_ret
  exact ⟨by kernel_rfl, rfl⟩
set_option maxRecDepth 100000 in
theorem onesP10 (w : World) : Calls Tryd.prog 63 #[.int .u64 1024] w fun e w' => e = .returned (.int .i64 1) ∧ w = w' := by
  go_enter Tryd.func63, Tryd.ntmps63
  go_wp2
  go_ret
  exact ⟨by kernel_rfl, rfl⟩
set_option maxRecDepth 100000 in
theorem onesP11 (w : World) : Calls Tryd.prog 63 #[.int .u64 2048] w fun e w' => e = .returned (.int .i64 1) ∧ w = w' := by
  go_enter Tryd.func63, Tryd.ntmps63
  go_wp2
  go_ret
  exact ⟨by kernel_rfl, rfl⟩
set_option maxRecDepth 100000 in
theorem onesP12 (w : World) : Calls Tryd.prog 63 #[.int .u64 4096] w fun e w' => e = .returned (.int .i64 1) ∧ w = w' := by
  go_enter Tryd.func63, Tryd.ntmps63
  go_wp2
  go_ret
  exact ⟨by kernel_rfl, rfl⟩
set_option maxRecDepth 100000 in
theorem onesP13 (w : World) : Calls Tryd.prog 63 #[.int .u64 8192] w fun e w' => e = .returned (.int .i64 1) ∧ w = w' := by
  go_enter Tryd.func63, Tryd.ntmps63
  go_wp2
  go_ret
  exact ⟨by kernel_rfl, rfl⟩
set_option maxRecDepth 100000 in
theorem onesP14 (w : World) : Calls Tryd.prog 63 #[.int .u64 16384] w fun e w' => e = .returned (.int .i64 1) ∧ w = w' := by
  go_enter Tryd.func63, Tryd.ntmps63
  go_wp2
  go_ret
  exact ⟨by kernel_rfl, rfl⟩
set_option maxRecDepth 100000 in
theorem onesP15 (w : World) : Calls Tryd.prog 63 #[.int .u64 32768] w fun e w' => e = .returned (.int .i64 1) ∧ w = w' := by
  go_enter Tryd.func63, Tryd.ntmps63
  go_wp2
  go_ret
  exact ⟨by kernel_rfl, rfl⟩
theorem ones64_pow (t : Nat) (ht : t < 16) (w : World) : Calls Tryd.prog 63 #[.int .u64 ((2 ^ t : Nat) : Int)] w fun e w' => e = .returned (.int .i64 1) ∧ w = w' := by
  match t, ht with
  | 0, _ => exact onesP0 w
  | 1, _ => exact onesP1 w
  | 2, _ => exact onesP2 w
  | 3, _ => exact onesP3 w
  | 4, _ => exact onesP4 w
  | 5, _ => exact onesP5 w
  | 6, _ => exact onesP6 w
  | 7, _ => exact onesP7 w
  | 8, _ => exact onesP8 w
  | 9, _ => exact onesP9 w
  | 10, _ => exact onesP10 w
  | 11, _ => exact onesP11 w
  | 12, _ => exact onesP12 w
  | 13, _ => exact onesP13 w
  | 14, _ => exact onesP14 w
  | 15, _ => exact onesP15 w
  | k + 16, h => omega
theorem ones_pow (t : Nat) (ht : t < 16) (w : World) : Calls Tryd.prog 43 #[.int .u64 ((2 ^ t : Nat) : Int)] w fun e w' => e = .returned (.int .i64 1) ∧ w = w' := by
  have H := hid (fun X => ones64_pow t ht X)
  go_enter Tryd.func43, Tryd.ntmps43
  generalize ((2 ^ t : Nat) : Int) = P at *
  go_wp2_with (go_at_call 63; refine (H.out _).mono ?_; rintro e w1 ⟨rfl, rfl⟩)
  go_ret
  exact ⟨rfl, rfl⟩
theorem single_pow (t : Nat) (ht : t < 16) (w : World) : Calls Tryd.prog 25 #[.int .i64 ((2 ^ t : Nat) : Int)] w fun e w' => e = .returned (.bool true) ∧ w = w' := by
  have H := hid (fun X => ones_pow t ht X)
  have h1 : ((2 ^ t : Nat) : Int) < 9223372036854775808 := by
    have : (2 : Nat) ^ t ≤ 2 ^ 15 := Nat.pow_le_pow_right (by decide) (by omega)
    omega
  have h0 : (0 : Int) ≤ ((2 ^ t : Nat) : Int) := Int.natCast_nonneg _
  generalize ((2 ^ t : Nat) : Int) = P at *
  have hw : IntKind.u64.wrap P = P := by rw [IntKind.wrap_u64]; omega
  go_enter Tryd.func25, Tryd.ntmps25
  go_wp2_with (go_at_call 43; refine (H.out _).mono ?_; rintro e w1 ⟨rfl, rfl⟩)
  go_ret
  exact ⟨rfl, rfl⟩
end Go.Proofs.YtjcdddccnfiemaaDoor
