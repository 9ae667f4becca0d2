/-
  The law's bits for the inputs of a program.
  No condition beyond the number of inputs.
-/
import Derived.Test.YtgfeknjhkciooaaDoorPrCheck
import Derived.Test.YtgfeknjhkciooaaDoorLawRed
import Derived.Deep.QuietTactic
import Derived.Laws.Bits64b
import Derived.Laws.IdiomStrings
namespace Go.Proofs.YtgfeknjhkciooaaDoor
open Go.RowKit
set_option linter.unusedVariables false

theorem bits_and_u32 (a b : Nat) (ha : a < 4294967296) (hb : b < 4294967296) : bits .and .u32 (a : Int) (b : Int) = ((a &&& b : Nat) : Int) := by
  have hx : a &&& b < 2 ^ 32 := Nat.and_lt_two_pow _ (by omega)
  have h1 : (BitVec.ofInt 32 (a : Int)).toNat = a := by
    rw [BitVec.ofInt_natCast, BitVec.toNat_ofNat]; exact Nat.mod_eq_of_lt (by omega)
  have h2 : (BitVec.ofInt 32 (b : Int)).toNat = b := by
    rw [BitVec.ofInt_natCast, BitVec.toNat_ofNat]; exact Nat.mod_eq_of_lt (by omega)
  show IntKind.u32.wrap ((BitVec.ofInt 32 (a : Int) &&& BitVec.ofInt 32 (b : Int)).toNat : Int) = _
  rw [BitVec.toNat_and, h1, h2]
  show (((a &&& b : Nat) : Int)) % 4294967296 = _
  omega
theorem low_bit {a : Int} (h0 : 0 ≤ a) (h1 : a ≤ 4294967295) (k : Nat) : bits .and .u32 (a / 2 ^ k) 1 = if a / 2 ^ k % 2 = 1 then 1 else 0 := by
  obtain ⟨A, rfl⟩ : ∃ A : Nat, a = A := ⟨a.toNat, by omega⟩
  have e : (A : Int) / 2 ^ k = ((A / 2 ^ k : Nat) : Int) := by simp
  rw [e]
  have hd : A / 2 ^ k ≤ A := Nat.div_le_self _ _
  generalize A / 2 ^ k = x at *
  have := bits_and_u32 x 1 (by omega) (by decide)
  rw [show ((1 : Nat) : Int) = 1 from rfl] at this
  rw [this, Nat.and_one_is_mod]
  split <;> omega
theorem conv_one {w : World} (c : UInt8) : (convert 71 9 (.slice (some ⟨w.heap.size, 0, none⟩) 1 1)).run Tryd.prog (w.alloc (.cells #[.int .u8 (c.toNat : Int)] 5)) = .ok (.string ⟨#[c]⟩) (w.alloc (.cells #[.int .u8 (c.toNat : Int)] 5)) :=
  run_convert_bytes_back (P := Tryd.prog) (w.alloc (.cells #[.int .u8 (c.toNat : Int)] 5)) 71 9 5 ⟨w.heap.size, 0, none⟩ 1 [c] Tryd.underlying71 Tryd.underlying5 Tryd.underlying9 (fun j hj => by
    have hj0 : j = 0 := by simpa using hj
    subst hj0
    exact World.news_of_block (heap_alloc_new w (.cells #[.int .u8 (c.toNat : Int)] 5)) 0 _ (by simp))
set_option maxRecDepth 100000 in
set_option maxHeartbeats 4000000 in
theorem inputs_any (N : Nat) (a : Int) (vc vo : Value) (w : World) (hN : N ≤ 24) (ha : 0 ≤ a) (ha2 : a ≤ 4294967295) :
    Calls Tryd.prog 20 #[.agg #[.int .i64 N, vc, vo], .int .u32 a] w fun e w' => e = .returned (.string (bitS (inL a N))) ∧ Below w.heap.size w w' := by
  go_enter Tryd.func20, Tryd.ntmps20
  go_upto_region 1 with fail
  obtain ⟨w0, hw0⟩ : ∃ w0, w.alloc (.cells #[.int .i64 N, vc, vo] 25) = w0 := ⟨_, rfl⟩
  obtain ⟨hb0, c0, c1, c2⟩ := boxP hw0
  rw [hw0]
  have HB0 := hid hb0
  clear hw0 hb0 c1 c2
  go_wp2_with fail
  go_loopw [5, 9] (fun s i wr => ∃ k : Nat, k ≤ N ∧ i = .int .i64 k ∧ s = .string (bitS (inL a k)) ∧ Below w0.heap.size w0 wr) (fun _ i _ => N - (intOf i).toNat)
  case atStart => exact ⟨0, Nat.zero_le _, rfl, rfl, Below.refl _ _⟩
  case round =>
    obtain ⟨k, hk, rfl, rfl, hb⟩ := hrel
    have HB := hid hb
    clear hb
    rename World => wm
    by_cases hlt : k < N
    · have hz : (bitS (inL a k)).size = k := by rw [bitS_size, inL_len]
      have hL := low_bit ha ha2 k
      have HS := hid (bitS_snoc (inL a k) (decide (a / 2 ^ k % 2 = 1)))
      rw [← inL_succ] at HS
      by_cases h1 : a / 2 ^ k % 2 = 1
      · rw [if_pos h1] at hL
        rw [decide_eq_true h1] at HS
        have hcv := conv_one (w := wm) 49
        rw [show ((49 : UInt8).toNat : Int) = 49 from rfl] at hcv
        clear h1
        go_wp2_with fail
        go_roundw
        case rel => exact ⟨k + 1, by omega, by go_num, by rw [HS.out]; rfl, bel_step HB.out (bel_alloc _ _)⟩
        case measure => simp [intOf]; omega
      · rw [if_neg h1] at hL
        rw [decide_eq_false h1] at HS
        have hcv := conv_one (w := wm) 48
        rw [show ((48 : UInt8).toNat : Int) = 48 from rfl] at hcv
        clear h1
        go_wp2_with fail
        go_roundw
        case rel => exact ⟨k + 1, by omega, by go_num, by rw [HS.out]; rfl, bel_step HB.out (bel_alloc _ _)⟩
        case measure => simp [intOf]; omega
    · obtain rfl : k = N := by omega
      go_wp2_with fail
      go_ret
      exact ⟨rfl, bel_step HB0.out HB.out⟩
end Go.Proofs.YtgfeknjhkciooaaDoor
