/-
  Gamma words are read back: plain.
  No condition: no program in sight.
-/
import Derived.Test.YtieahckbbohfgaaGreatDoorGamma
import Derived.Test.YtieahckbbohfgaaGreatDoorUngol
namespace Go.Proofs.YtieahckbbohfgaaGreatDoor
open Go.RowKit
set_option linter.unusedVariables false

/-- How many letters 0 stand at the beginning. -/
def zer (l : List UInt8) : Nat := l.length - (Lib.trimLeftB l 48).length
theorem trimL_le (l : List UInt8) : (Lib.trimLeftB l 48).length ≤ l.length := by
  unfold Lib.trimLeftB
  exact (List.dropWhile_sublist _).length_le
theorem zer_le (l : List UInt8) : zer l ≤ l.length := Nat.sub_le _ _
theorem trimL_rep (k : Nat) (t : List UInt8) : Lib.trimLeftB (List.replicate k 48 ++ 49 :: t) 48 = 49 :: t := by
  induction k with
  | zero => rfl
  | succ k ih => rw [List.replicate_succ, List.cons_append, Lib.trimLeftB, List.dropWhile_cons_of_pos (by rfl)]; exact ih
theorem zer_rep (k : Nat) (t : List UInt8) : zer (List.replicate k 48 ++ 49 :: t) = k := by
  rw [zer, trimL_rep]; simp
/-- What Ungamma answers. -/
def ugV (l : List UInt8) : Value :=
  if 62 < zer l then .tuple #[.int .i64 0, .int .i64 0, .int .i64 4] else
  if l.length < 2 * zer l + 1 then .tuple #[.int .i64 0, .int .i64 0, .int .i64 13] else
  .tuple #[.int .i64 (valW ((l.drop (zer l)).take (zer l + 1)) : Int), .int .i64 ((2 * zer l + 1 : Nat) : Int), .int .i64 0]
theorem dgN_low (n : Nat) (h1 : 1 ≤ n) (hn : n < 9223372036854775808) : 2 ^ (dgN n - 1) ≤ n := by
  rw [dgN, if_neg (by omega)]
  exact (bitLenAux_bounds 64 n (by omega) (by omega)).1
theorem gamW_form (n : Nat) (h1 : 1 ≤ n) (hn : n < 9223372036854775808) : gamW n = List.replicate (dgN n - 1) 48 ++ 49 :: binW n (dgN n - 1) := by
  obtain ⟨d1, d2, d3⟩ := dgN_lt n hn
  have d4 := dgN_low n h1 hn
  obtain ⟨k, hk⟩ : ∃ k, dgN n = k + 1 := ⟨dgN n - 1, by omega⟩
  rw [gamW, hk, Nat.add_sub_cancel, binW_cons]
  rw [hk] at d1 d4
  rw [Nat.add_sub_cancel] at d4
  have h5 : n / 2 ^ k = 1 := by
    have h6 : 1 ≤ n / 2 ^ k := (Nat.le_div_iff_mul_le (Nat.two_pow_pos k)).2 (by omega)
    have h7 : n / 2 ^ k < 2 := (Nat.div_lt_iff_lt_mul (Nat.two_pow_pos k)).2 (by rw [Nat.pow_succ] at d1; omega)
    omega
  rw [h5]
  rfl
theorem gamW_len (n : Nat) (hn : n < 9223372036854775808) : (gamW n).length = 2 * (dgN n - 1) + 1 := by
  obtain ⟨d1, d2, d3⟩ := dgN_lt n hn
  rw [gamW, List.length_append, List.length_replicate, binW_len]
  omega
theorem gamW_bits (n : Nat) : ∀ c ∈ gamW n, isBit c = true := by
  intro c hc
  rcases List.mem_append.1 hc with h | h
  · rw [(List.mem_replicate.1 h).2]; rfl
  · exact binW_bits _ _ c h
theorem ugV_gam (n : Nat) (t : List UInt8) (h1 : 1 ≤ n) (hn : n < 9223372036854775808) : ugV (gamW n ++ t) = .tuple #[.int .i64 (n : Int), .int .i64 ((gamW n).length : Int), .int .i64 0] := by
  obtain ⟨d1, d2, d3⟩ := dgN_lt n hn
  have hz : zer (gamW n ++ t) = dgN n - 1 := by rw [gamW_form n h1 hn, List.append_assoc, List.cons_append, zer_rep]
  have hv : ((gamW n ++ t).drop (dgN n - 1)).take (dgN n - 1 + 1) = binW n (dgN n) := by
    rw [gamW, List.append_assoc, List.drop_left' (by simp), show dgN n - 1 + 1 = dgN n by omega, List.take_left' (binW_len _ _)]
  rw [ugV, hz, if_neg (by omega), if_neg (by rw [List.length_append, gamW_len n hn]; omega), hv, valW_binW, Nat.mod_eq_of_lt d1, gamW_len n hn]
theorem dgN_twice (n : Nat) (h1 : 1 ≤ n) (hn : n < 4611686018427387904) : dgN (2 * n) = dgN n + 1 := by
  rw [dgN, if_neg (by omega), dgN, if_neg (by omega), Lib.bitLen_half (2 * n) (by omega) (by omega), show 2 * n / 2 = n by omega]
  omega
/-- The part of the word that is the number. -/
theorem part_of {l : List UInt8} (h : ¬ l.length < 2 * zer l + 1) : ((l.drop (zer l)).take (zer l + 1)).length = zer l + 1 := by
  rw [List.length_take, List.length_drop]; omega
end Go.Proofs.YtieahckbbohfgaaGreatDoor
