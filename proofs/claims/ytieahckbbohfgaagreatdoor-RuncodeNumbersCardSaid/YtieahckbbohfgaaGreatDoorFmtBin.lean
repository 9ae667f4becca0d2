/-
  strconv.FormatInt of base 2 at numbers that are not negative: the binary digits.
  The library's table for TrailingZeros lies in its variable.
-/
import Derived.Test.YtieahckbbohfgaaGreatDoorTunCod
import Derived.Test.YtieahckbbohfgaaGreatDoorGolLaw
import Derived.Shelf.Spec.TrailingZeros
import Derived.Lib.SliceRun
namespace Go.Proofs.YtieahckbbohfgaaGreatDoor
open Go.RowKit
set_option linter.unusedVariables false

set_option maxHeartbeats 1000000 in
theorem tz64_core (x k idx : Nat) (w : World) (hx0 : ((x : Int) == 0) = false)
    (key : IntKind.u64.wrap (bits BinOp.and IntKind.u64 (x : Int) (IntKind.u64.wrap (-(x : Int))) * 285870213051353865) / 288230376151711744 = (idx : Int))
    (hi : idx < 64) (hk : k < 64) (hcell : w.cell? ⟨7, idx, none⟩ = some (.int .u8 k)) :
    Calls Tryz.prog 161 #[.int .u64 x] w fun e w' => e = .returned (.int .i64 k) ∧ w = w' := by
  go_enter Tryz.func161, Tryz.ntmps161
  go_wp2_with (simp only [key])
  go_ret
  exact ⟨rfl, rfl⟩
theorem tz_any (x : Nat) (w : World) (h0 : 0 < x) (hx : x < 65536) (hT : TabAt 7 Lib.deBruijn64tab w) :
    Calls Tryz.prog 134 #[.int .u64 (x : Int)] w fun e w' => e = .returned (.int .i64 (Lib.ctz 64 x)) ∧ w = w' := by
  obtain ⟨hlow, hk⟩ := Lib.lowest_bit 64 x (by omega) (by omega)
  obtain ⟨hi, htab⟩ := Lib.deBruijn64_at _ hk
  have hcell := hT _ hi
  rw [htab] at hcell
  have c64 := hid (tz64_core x _ _ w (by simp; omega) (tz64_key x _ (by omega) (by omega) hlow) hi hk hcell)
  have hw : IntKind.u64.wrap (x : Int) = (x : Int) := by rw [IntKind.wrap_u64]; omega
  clear hlow hk hi htab hcell hT
  generalize Lib.ctz 64 x = T at *
  go_enter Tryz.func134, Tryz.ntmps134
  go_wp2_with (go_at_call 161; refine c64.out.mono ?_; rintro e w' ⟨rfl, rfl⟩)
  go_ret
  exact ⟨rfl, rfl⟩
theorem tab_below {g : Nat} {tab : List Nat} {w w' : World} (h : TabAt g tab w) (hb : Below w.heap.size w w') : TabAt g tab w' := fun j hj => keeps hb (h j hj)
theorem tz_two (w : World) (hT : TabAt 7 Lib.deBruijn64tab w) :
    Calls Tryz.prog 134 #[.int .u64 2] w fun e w' => e = .returned (.int .i64 1) ∧ w = w' := tz_any 2 w (by decide) (by decide) hT
theorem pow2_any (w : World) : Calls Tryz.prog 133 #[.int .i64 2] w fun e w' => e = .returned (.bool true) ∧ w = w' := by
  have hb : bits BinOp.and IntKind.i64 2 1 = 0 := by decide +kernel
  go_enter Tryz.func133, Tryz.ntmps133
  go_wp2_with (simp only [hb])
  go_ret
  exact ⟨rfl, rfl⟩
theorem and_one (E : Int) (h0 : 0 ≤ E) (h1 : E ≤ 18446744073709551615) : bits BinOp.and IntKind.u64 E 1 = E % 2 := by
  have h := bits_and_u64_nat E.toNat 1 (by omega) (by omega)
  rw [Nat.and_one_is_mod, Int.toNat_of_nonneg h0] at h
  have h2 : ((E.toNat % 2 : Nat) : Int) = E % 2 := by omega
  exact h.trans h2
/-- Bytes as the cells of an array. -/
def byt (l : List UInt8) : List Value := l.map fun c => .int .u8 (c.toNat : Int)
theorem byt_len (l : List UInt8) : (byt l).length = l.length := by simp [byt]
/-- The number of binary digits. -/
def dgN (n : Nat) : Nat := if n = 0 then 1 else Lib.bitLen n
theorem dgN_of {n k : Nat} (h : n / 2 ^ k < 2) (h2 : k = 0 ∨ 2 ^ k ≤ n) (hn : n < 18446744073709551616) : dgN n = k + 1 := by
  unfold dgN
  by_cases h0 : n = 0
  · subst h0
    rcases h2 with rfl | h2
    · rfl
    · have := Nat.two_pow_pos k; omega
  · rw [if_neg h0]
    have h3 : 2 ^ k ≤ n := by
      rcases h2 with rfl | h2
      · simp; omega
      · exact h2
    rw [Lib.bitLen_shift k n h3 hn]
    have h4 : 1 ≤ n / 2 ^ k := (Nat.le_div_iff_mul_le (Nat.two_pow_pos k)).2 (by omega)
    have h5 : n / 2 ^ k = 1 := by omega
    rw [h5]; rfl
theorem binW_cons (n k : Nat) : binW n (k + 1) = (48 + n / 2 ^ k % 2).toUInt8 :: binW n k := by
  induction k generalizing n with
  | zero => simp [binW]
  | succ k ih =>
    rw [binW, ih (n / 2)]
    rw [show binW n (k + 1) = binW (n / 2) k ++ [(48 + n % 2).toUInt8] from rfl]
    rw [Nat.div_div_eq_div_mul, show 2 * 2 ^ k = 2 ^ (k + 1) by rw [Nat.pow_succ]; omega]
    rfl
theorem byt_cons (n k : Nat) (r : Int) (h : ((n / 2 ^ k : Nat) : Int) % 2 = r) : byt (binW n (k + 1)) = .int .u8 (48 + r) :: byt (binW n k) := by
  rw [binW_cons, ← h]
  have h2 : (((48 + n / 2 ^ k % 2).toUInt8).toNat : Int) = 48 + ((n / 2 ^ k : Nat) : Int) % 2 := by rw [digit_back]; omega
  simp only [byt, List.map_cons]
  rw [h2]
theorem set_drop {cur : Array Value} {j : Nat} (v : Value) (h : j < cur.size) : (cur.set! j v).toList.drop j = v :: cur.toList.drop (j + 1) := by
  rw [Array.set!_eq_setIfInBounds, Array.toList_setIfInBounds, List.drop_set]
  rw [if_neg (by omega), Nat.sub_self]
  rw [List.drop_eq_getElem_cons (by simpa using h)]
  rfl
theorem set_heap {w : World} {b j : Nat} {cur : Array Value} {T : TypeId} {fz : Nat × Nat} (v : Value) (h : w.heap[b]? = some (.cells cur T fz)) : (w.setCell ⟨b, j, none⟩ v).heap[b]? = some (.cells (cur.set! j v) T fz) := by
  simp [World.setCell, Array.getElem?_modify, h]
set_option maxRecDepth 100000 in
set_option maxHeartbeats 4000000 in
theorem fbits_any (n : Nat) (w : World) (hn : n < 9223372036854775808) (hT : TabAt 7 Lib.deBruijn64tab w) :
    Calls Tryz.prog 101 #[.slice none 0 0, .int .u64 (n : Int), .int .i64 2, .bool false, .bool false] w fun e w' => e = .returned (.tuple #[.slice none 0 0, .string ⟨(binW n (dgN n)).toArray⟩]) ∧ Below w.heap.size w w' := by
  have HT := hid hT
  go_enter Tryz.func101, Tryz.ntmps101
  go_upto_region 4 with fail
  obtain ⟨w0, hw0⟩ : ∃ w0, w.alloc (.cells Tryz.zeroCells176 176) = w0 := ⟨_, rfl⟩
  have HK0 := hid (show ∃ cur, w0.heap[w.heap.size]? = some (.cells cur 176 (0, 0)) ∧ cur.size = 65 ∧ cur.toList.drop 65 = byt (binW n 0) by
    refine ⟨Tryz.zeroCells176, ?_, rfl, rfl⟩
    rw [← hw0]; exact heap_alloc_new w _)
  have HB0 := hid (show Below w.heap.size w w0 by rw [← hw0]; exact bel_alloc _ _)
  have HT0 := hid (tab_below hT HB0.out)
  rw [hw0]
  clear hw0 hT
  generalize hx : w.heap.size = bx at *
  have HX := hid hx
  clear hx
  go_wp2_with (first
    | (go_at_call 133; refine (pow2_any _).mono ?_; rintro e w1 ⟨rfl, rfl⟩)
    | (go_at_call 134; refine (tz_two _ HT0.out).mono ?_; rintro e w1 ⟨rfl, rfl⟩))
  go_loopw [13, 1] (fun i u wr => ∃ k j : Nat, j + k = 65 ∧ k ≤ 62 ∧ i = .int .i64 (j : Int) ∧ u = .int .u64 ((n / 2 ^ k : Nat) : Int) ∧ Hid (k = 0 ∨ 2 ^ k ≤ n) ∧ Hid (∃ cur, wr.heap[bx]? = some (.cells cur 176 (0, 0)) ∧ cur.size = 65 ∧ cur.toList.drop j = byt (binW n k)) ∧ Hid (Below bx w wr)) (fun i _ _ => (intOf i).toNat)
  case atStart => exact ⟨0, 65, rfl, by decide, rfl, by simp, hid (.inl rfl), HK0, HB0⟩
  case round =>
    obtain ⟨k, j, hjk, hk, rfl, rfl, HP, HK, HB⟩ := hrel
    rename World => wk
    obtain ⟨j, rfl⟩ : ∃ j', j = j' + 1 := ⟨j - 1, by omega⟩
    obtain ⟨cur, h1, h2, h3⟩ := HK.out
    obtain ⟨z, hc⟩ : ∃ z, wk.cell? ⟨bx, j, none⟩ = some z := ⟨_, by rw [Lib.cell_of_heap h1, Array.getElem?_eq_getElem (by omega)]⟩
    have hf := Lib.frozen_of_heap h1 j
    by_cases hq : 2 ≤ n / 2 ^ k
    · have hP := HP.out
      have hp := Nat.two_pow_pos k
      have hk1 : 2 ^ (k + 1) ≤ n := by
        rw [Nat.pow_succ]
        have := (Nat.le_div_iff_mul_le hp).1 hq
        omega
      have hk2 : k + 1 < 63 := (Nat.pow_lt_pow_iff_right (a := 2) (by decide)).1 (Nat.lt_of_le_of_lt hk1 (by simpa using hn))
      have HN := hid (show ((n / 2 ^ (k + 1) : Nat) : Int) = ((n / 2 ^ k : Nat) : Int) / 2 by rw [Nat.pow_succ, ← Nat.div_div_eq_div_mul]; omega)
      have HC := hid (byt_cons n k)
      have HKK := hid (And.intro h1 (And.intro h2 h3))
      have HP1 := hid hk1
      have hqb : n / 2 ^ k ≤ 9223372036854775807 := Nat.le_trans (Nat.div_le_self _ _) (by omega)
      clear hP hp hk1 h1 h2 h3 HK HP
      generalize n / 2 ^ k = q at *
      have hand := and_one (q : Int) (by omega) (by omega)
      rcases (show (q : Int) % 2 = 0 ∨ (q : Int) % 2 = 1 by omega) with hr | hr
      · have HR := hid (HC.out _ hr)
        rw [hr] at hand
        clear hr HC
        go_wp2
        go_roundw
        case rel =>
          obtain ⟨g1, g2, g3⟩ := HKK.out
          refine ⟨k + 1, j, by omega, by omega, by go_num, by rw [HN.out], hid (.inr HP1.out), hid ⟨_, set_heap _ g1, by simpa using g2, ?_⟩, hid (HB.out.setCell (p := ⟨bx, j, none⟩) (Nat.le_refl _) _)⟩
          rw [set_drop _ (by omega), g3, HR.out]
          rfl
        case measure => simp [intOf]
      · have HR := hid (HC.out _ hr)
        rw [hr] at hand
        clear hr HC
        go_wp2
        go_roundw
        case rel =>
          obtain ⟨g1, g2, g3⟩ := HKK.out
          refine ⟨k + 1, j, by omega, by omega, by go_num, by rw [HN.out], hid (.inr HP1.out), hid ⟨_, set_heap _ g1, by simpa using g2, ?_⟩, hid (HB.out.setCell (p := ⟨bx, j, none⟩) (Nat.le_refl _) _)⟩
          rw [set_drop _ (by omega), g3, HR.out]
          rfl
        case measure => simp [intOf]
    · have HC := hid (byt_cons n k)
      have HD := hid (dgN_of (n := n) (k := k) (by omega) HP.out (by omega))
      have HKK := hid (And.intro h1 (And.intro h2 h3))
      clear h1 h2 h3 HK HP
      generalize n / 2 ^ k = q at *
      rcases (show q = 0 ∨ q = 1 by omega) with rfl | rfl
      · have HR := hid (HC.out 0 rfl)
        clear HC
        go_upto_region 30 with fail
        generalize hw0 : wk.setCell _ _ = w2
        have hw2 : wk.setCell ⟨bx, j, none⟩ (.int .u8 48) = w2 := hw0
        clear hw0
        obtain ⟨g1, g2, g3⟩ := HKK.out
        have hcv : (convert 67 9 (.slice (some ⟨bx, j, none⟩) (65 - j) (65 - j))).run Tryz.prog w2 = .ok (.string ⟨(binW n (k + 1)).toArray⟩) w2 := by
          have h5 : (binW n (k + 1)).length = 65 - j := by rw [binW_len]; omega
          have h6 := run_convert_bytes_back (P := Tryz.prog) w2 67 9 5 ⟨bx, j, none⟩ (65 - j) (binW n (k + 1)) Tryz.underlying67 Tryz.underlying5 Tryz.underlying9 (fun t ht => by
            have e : (⟨bx, j, none⟩ : Addr).add t = ⟨bx, j + t, none⟩ := by unfold Addr.add; split <;> simp_all
            rw [e, ← hw2, Lib.cell_of_heap (set_heap _ g1)]
            have h7 : (cur.set! j (.int .u8 48)).toList.drop j = byt (binW n (k + 1)) := by
              rw [set_drop _ (by omega), g3, HR.out]; rfl
            have h8 := congrArg (fun l => l[t]?) h7
            simp only [List.getElem?_drop] at h8
            rw [← Array.getElem?_toList, h8]
            simp [byt, ht])
          rw [h5] at h6
          exact h6
        have hb2 : Below bx w w2 := by rw [← hw2]; exact HB.out.setCell (p := ⟨bx, j, none⟩) (Nat.le_refl _) _
        have e1 : (j : Int) ≤ 65 := by omega
        have e2 : j ≤ 65 := by omega
        have e3 : ¬ j = 65 := by omega
        have e4 : ¬ 65 = j := by omega
        clear hw2 g1 g2 g3
        go_wp2
        go_ret2
        exact ⟨by rw [HD.out]; rfl, by rw [HX.out]; exact hb2⟩
      · have HR := hid (HC.out 1 rfl)
        clear HC
        go_upto_region 30 with fail
        generalize hw0 : wk.setCell _ _ = w2
        have hw2 : wk.setCell ⟨bx, j, none⟩ (.int .u8 49) = w2 := hw0
        clear hw0
        obtain ⟨g1, g2, g3⟩ := HKK.out
        have hcv : (convert 67 9 (.slice (some ⟨bx, j, none⟩) (65 - j) (65 - j))).run Tryz.prog w2 = .ok (.string ⟨(binW n (k + 1)).toArray⟩) w2 := by
          have h5 : (binW n (k + 1)).length = 65 - j := by rw [binW_len]; omega
          have h6 := run_convert_bytes_back (P := Tryz.prog) w2 67 9 5 ⟨bx, j, none⟩ (65 - j) (binW n (k + 1)) Tryz.underlying67 Tryz.underlying5 Tryz.underlying9 (fun t ht => by
            have e : (⟨bx, j, none⟩ : Addr).add t = ⟨bx, j + t, none⟩ := by unfold Addr.add; split <;> simp_all
            rw [e, ← hw2, Lib.cell_of_heap (set_heap _ g1)]
            have h7 : (cur.set! j (.int .u8 49)).toList.drop j = byt (binW n (k + 1)) := by
              rw [set_drop _ (by omega), g3, HR.out]; rfl
            have h8 := congrArg (fun l => l[t]?) h7
            simp only [List.getElem?_drop] at h8
            rw [← Array.getElem?_toList, h8]
            simp [byt, ht])
          rw [h5] at h6
          exact h6
        have hb2 : Below bx w w2 := by rw [← hw2]; exact HB.out.setCell (p := ⟨bx, j, none⟩) (Nat.le_refl _) _
        have e1 : (j : Int) ≤ 65 := by omega
        have e2 : j ≤ 65 := by omega
        have e3 : ¬ j = 65 := by omega
        have e4 : ¬ 65 = j := by omega
        clear hw2 g1 g2 g3
        go_wp2
        go_ret2
        exact ⟨by rw [HD.out]; rfl, by rw [HX.out]; exact hb2⟩
set_option maxRecDepth 100000 in
theorem fmtIn_any (n : Nat) (w : World) (hn : n < 9223372036854775808) (hT : TabAt 7 Lib.deBruijn64tab w) :
    Calls Tryz.prog 67 #[.int .i64 (n : Int), .int .i64 2] w fun e w' => e = .returned (.string ⟨(binW n (dgN n)).toArray⟩) ∧ Below w.heap.size w w' := by
  have HF := hid (fbits_any n w hn hT)
  have h0 : (0 : Int) ≤ (n : Int) := by omega
  have h1 : ¬ (n : Int) < 0 := by omega
  have h2 : IntKind.u64.wrap (n : Int) = (n : Int) := by rw [IntKind.wrap_u64]; omega
  clear hT
  go_enter Tryz.func67, Tryz.ntmps67
  go_wp2_with (go_at_call 101; refine HF.out.mono ?_; rintro e w1 ⟨rfl, hb1⟩; have HB1 := hid hb1; clear hb1)
  go_ret
  exact ⟨rfl, HB1.out⟩
theorem fmt_any (n : Nat) (w : World) (hn : n < 9223372036854775808) (hT : TabAt 7 Lib.deBruijn64tab w) :
    Calls Tryz.prog 42 #[.int .i64 (n : Int), .int .i64 2] w fun e w' => e = .returned (.string ⟨(binW n (dgN n)).toArray⟩) ∧ Below w.heap.size w w' := by
  have HF := hid (fmtIn_any n w hn hT)
  clear hT
  go_enter Tryz.func42, Tryz.ntmps42
  go_wp2_with (go_at_call 67; refine HF.out.mono ?_; rintro e w1 ⟨rfl, hb1⟩; have HB1 := hid hb1; clear hb1)
  go_ret
  exact ⟨rfl, HB1.out⟩
end Go.Proofs.YtieahckbbohfgaaGreatDoor
