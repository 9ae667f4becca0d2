/-
  What the statement ProgramReduces compares, as plain equations; the bits that the law draws.
  No condition.
-/
import Derived.Test.YtgfeknjhkciooaaDoorInsStr
namespace Go.Proofs.YtgfeknjhkciooaaDoor
open Go.RowKit
set_option linter.unusedVariables false

theorem progErr_parts {n : Int} {c : List Ins} {o : List Int} (h : progErr n c o = 0) : ∃ N : Nat, n = (N : Int) ∧ N ≤ 24 ∧ pcodeErr N c = 0 ∧ ∀ k ∈ o, 0 ≤ k ∧ k < (N : Int) + c.length := by
  obtain ⟨h0, h24, _, _, hc, ho⟩ := progErr_zero.1 h
  exact ⟨n.toNat, by omega, by omega, by rw [show ((n.toNat : Nat) : Int) = n by omega]; exact hc, by rw [show ((n.toNat : Nat) : Int) = n by omega]; exact ho⟩
structure RedLaw (n : Int) (c : List Ins) (o : List Int) (l : List Bool) : Prop where
  e1 : redE n c o = 0
  i1 : redI n c o = n
  e2 : redE n (redN n c o) (redP n c o) = 0
  i2 : redI n (redN n c o) (redP n c o) = n
  c2 : redN n (redN n c o) (redP n c o) = redN n c o
  o2 : redP n (redN n c o) (redP n c o) = redP n c o
  r1 : runErr n c o (bitS l) = 0
  r2 : runErr n (redN n c o) (redP n c o) (bitS l) = 0
  s2 : runStr n (redN n c o) (redP n c o) (bitS l) = runStr n c o (bitS l)
  k2 : progErr n (redN n c o) (redP n c o) = 0
  len : (redN n c o).length ≤ c.length + 2
theorem redLaw {n : Int} {c : List Ins} {o : List Int} {l : List Bool} (h : progErr n c o = 0) (hc : c.length ≤ 30) (ho : o.length ≤ 30) (hl : (l.length : Int) = n) : RedLaw n c o l := by
  obtain ⟨N, rfl, hN, hp, hk⟩ := progErr_parts h
  have hlN : l.length = N := by omega
  have C : redN N c o = redC N c o := by rw [redN, if_pos h, Int.toNat_natCast]
  have O : redP N c o = redO N c o := by rw [redP, if_pos h, Int.toNat_natCast]
  have hv := red_valid hN hp hk (by omega) (by omega)
  obtain ⟨hi1, hi2⟩ := red_idem hp hk
  have hs := red_same hlN hp hk
  rw [← C, ← O] at hv hi1 hi2 hs
  have hb : ((bitS l).size : Int) = N := by rw [bitS_size]; exact hl
  have r1 : runErr N c o (bitS l) = 0 := runErr_zero.2 ⟨h, hb, okBits_bitS l⟩
  have r2 : runErr N (redN N c o) (redP N c o) (bitS l) = 0 := runErr_zero.2 ⟨hv, hb, okBits_bitS l⟩
  refine ⟨by rw [redE, if_pos h], by rw [redI, if_pos h], by rw [redE, if_pos hv], by rw [redI, if_pos hv], ?_, ?_, r1, r2, ?_, hv, ?_⟩
  · conv => lhs; rw [redN, if_pos hv, Int.toNat_natCast]
    exact hi1
  · conv => lhs; rw [redP, if_pos hv, Int.toNat_natCast]
    exact hi2
  · rw [runStr, runStr, if_pos r1, if_pos r2, bitsB_bitS, hs]
  · rw [C]; exact red_len N c o (red_facts hp hk)
/-- The bits that the law draws. -/
def inL (a : Int) (n : Nat) : List Bool := (List.range n).map fun i => decide (a / 2 ^ i % 2 = 1)
theorem inL_len (a : Int) (n : Nat) : (inL a n).length = n := by simp [inL]
theorem inL_succ (a : Int) (n : Nat) : inL a (n + 1) = inL a n ++ [decide (a / 2 ^ n % 2 = 1)] := by simp [inL, List.range_succ]
theorem bitS_snoc (l : List Bool) (b : Bool) : bitS (l ++ [b]) = bitS l ++ ⟨#[bitC b]⟩ := by
  apply ByteArray.ext
  rw [ByteArray.data_append]
  simp [bitS]
end Go.Proofs.YtgfeknjhkciooaaDoor
