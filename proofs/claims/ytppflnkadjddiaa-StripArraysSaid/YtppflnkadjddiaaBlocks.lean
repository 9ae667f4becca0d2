/-
  groovelaw19.blocks: the blocks that the statements of layer 19 draw.
  No condition.
-/
import Derived.Test.YtppflnkadjddiaaNumbers
import Derived.Test.YtppflnkadjddiaaCheck
import Derived.Laws.BitsAllLaws
namespace Go.Proofs.Ytppflnkadjddiaa
open Go.RowKit
set_option linter.unusedVariables false

/-- Is the n-th block drawn? -/
def blkB (h s : Int) (n : Nat) : Bool := decide (s / 2 ^ n % 2 = 1) && (decide (1 < h) || decide (n < 4))
def blkTo (h s : Int) (k : Nat) : List Int := ((List.range k).filter (blkB h s)).map (fun (n : Nat) => (n : Int))
def blkOf (h s : Int) : List Int := blkTo h s 16
theorem blkTo_yes {h s : Int} {k : Nat} (hb : blkB h s k = true) : blkTo h s (k + 1) = blkTo h s k ++ [(k : Int)] := by simp [blkTo, List.range_succ, hb]
theorem blkTo_no {h s : Int} {k : Nat} (hb : blkB h s k = false) : blkTo h s (k + 1) = blkTo h s k := by simp [blkTo, List.range_succ, hb]
theorem blkTo_len (h s : Int) (k : Nat) : (blkTo h s k).length ≤ k := by
  have := List.length_filter_le (blkB h s) (List.range k)
  simpa [blkTo] using this

theorem u16_and1 (n : Int) (h0 : 0 ≤ n) (h1 : n < 65536) : bits .and .u16 n 1 = n % 2 := by
  rw [u16_and n 1 h0 h1 (by decide) (by decide)]
  have : (1 : Int).toNat = 1 := rfl
  rw [this, Nat.and_one_is_mod]
  omega
theorem ediv_pow_lt {s : Int} (k : Nat) (s0 : 0 ≤ s) (s1 : s ≤ 65535) : 0 ≤ s / 2 ^ k ∧ s / 2 ^ k < 65536 := by
  have hp : (0 : Int) < 2 ^ k := Int.pow_pos (by decide)
  refine ⟨Int.ediv_nonneg s0 (Int.le_of_lt hp), ?_⟩
  have := Int.ediv_le_self (2 ^ k) s0
  omega
set_option maxRecDepth 100000 in
set_option maxHeartbeats 1000000 in
theorem lawBlocks_any (h s : Int) (w : World) (s0 : 0 ≤ s) (s1 : s ≤ 65535) :
    Calls Try.prog 24 #[.int .i64 h, .int .u16 s] w fun e w' => ∃ v', e = .returned v' ∧ w'.ownsRow w.heap.size 3 1 v' (blkOf h s).length (ints (blkOf h s)) ∧ Below w.heap.size w w' := by
  go_enter Try.func24, Try.ntmps24
  go_wp2
  go_loopw [5, 7] (fun u i wr => ∃ k : Nat, k ≤ 16 ∧ i = .int .i64 k ∧ wr.ownsRow w.heap.size 3 1 u (blkTo h s k).length (ints (blkTo h s k)) ∧ Below w.heap.size w wr) (fun _ i _ => 16 - (intOf i).toNat)
  case atStart => exact ⟨0, Nat.zero_le _, rfl, World.ownsRow_nil _ _ _ _, Below.refl _ _⟩
  case round =>
    obtain ⟨k, hk, rfl, hown, hbel⟩ := hrel
    by_cases hlt : k < 16
    · have hbit := u16_and1 (s / 2 ^ k) (ediv_pow_lt k s0 s1).1 (ediv_pow_lt k s0 s1).2
      by_cases hB : blkB h s k = true
      · have HB := hid hB
        have hB' := hB
        simp only [blkB, Bool.and_eq_true, Bool.or_eq_true, decide_eq_true_eq] at hB'
        obtain ⟨q1, q2⟩ := hB'
        have e1 : (bits .and .u16 (s / 2 ^ k) 1 == 1) = true := by rw [hbit, q1]; rfl
        clear hB q1 hbit
        have hlen := blkTo_len h s k
        by_cases hh : 1 < h
        · have e2 : decide (1 < h) = true := by simpa using hh
          go_wp2_with (at_builtin; refine wpList_push _ rfl _ _ 24 rfl w.heap.size 3 (.int .i64 0) 1 8 Try.underlying24 Try.info3 rfl (by decide) _ _ _ rfl hown #[.int .i64 (k : Int)] rfl (oneCell_int _ _) rfl (by unfold maxLen; omega) (by omega) hbel.size ?_; intro g gc w1 hown1 hg hb1)
          go_roundw
          case rel => exact ⟨k + 1, by omega, by go_num, by rw [blkTo_yes HB.out, ints_snoc, List.length_append]; exact hown1, hbel.trans hb1⟩
          case measure => simp [intOf]; omega
        · have e2 : decide (1 < h) = false := by simpa using hh
          have e3 : decide ((k : Int) < 4) = true := by have := q2.resolve_left hh; simp; omega
          have hk4 : k < 4 := q2.resolve_left hh
          clear q2
          go_wp2_with (at_builtin; refine wpList_push _ rfl _ _ 24 rfl w.heap.size 3 (.int .i64 0) 1 8 Try.underlying24 Try.info3 rfl (by decide) _ _ _ rfl hown #[.int .i64 (k : Int)] rfl (oneCell_int _ _) rfl (by unfold maxLen; omega) (by omega) hbel.size ?_; intro g gc w1 hown1 hg hb1)
          go_roundw
          case rel => exact ⟨k + 1, by omega, by go_num, by rw [blkTo_yes HB.out, ints_snoc, List.length_append]; exact hown1, hbel.trans hb1⟩
          case measure => simp [intOf]; omega
      · have hB2 : blkB h s k = false := by simpa using hB
        have HB := hid hB2
        clear hB2
        by_cases hq : s / 2 ^ k % 2 = 1
        · have e1 : (bits .and .u16 (s / 2 ^ k) 1 == 1) = true := by rw [hbit, hq]; rfl
          have hr : ¬ (1 < h ∨ k < 4) := by
            intro hr
            apply hB
            simp only [blkB, Bool.and_eq_true, Bool.or_eq_true, decide_eq_true_eq]
            exact ⟨hq, hr⟩
          have e2 : decide (1 < h) = false := by simp; omega
          have e3 : decide ((k : Int) < 4) = false := by simp; omega
          have h1' : h ≤ 1 := by omega
          have h4' : 4 ≤ k := by omega
          clear hB hq hbit hr
          go_wp2
          go_roundw
          case rel => exact ⟨k + 1, by omega, by go_num, by rw [blkTo_no HB.out]; exact hown, hbel⟩
          case measure => simp [intOf]; omega
        · have e1 : (bits .and .u16 (s / 2 ^ k) 1 == 1) = false := by rw [hbit]; simpa using hq
          clear hB hq hbit
          go_wp2
          go_roundw
          case rel => exact ⟨k + 1, by omega, by go_num, by rw [blkTo_no HB.out]; exact hown, hbel⟩
          case measure => simp [intOf]; omega
    · go_wp2
      go_ret
      obtain rfl : k = 16 := by omega
      exact ⟨_, rfl, hown, hbel⟩
end Go.Proofs.Ytppflnkadjddiaa
