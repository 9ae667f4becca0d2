/-
  strconv.ParseInt of base 2 at binary digits that are not too many.
  Up to 63 digits, at least one.
-/
import Derived.Test.YtieahckbbohfgaaGreatDoorUngol
import Derived.Lib.ConvBytes
namespace Go.Proofs.YtieahckbbohfgaaGreatDoor
open Go.RowKit
set_option linter.unusedVariables false

theorem conv_bytes (w : World) (x : ByteArray) (hx : x.size ≤ maxLen) : ∃ w' cap, (convert 9 67 (.string x)).run Tryz.prog w = .ok (.slice (some ⟨w.heap.size, 0, none⟩) x.size cap) w' ∧ Below w.heap.size w w' ∧ w.heap.size < w'.heap.size ∧ x.size ≤ cap ∧ cap ≤ maxLen ∧
    ∀ (j : Nat) (c : UInt8), x.data.toList[j]? = some c → w'.cell? ⟨w.heap.size, j, none⟩ = some (.int .u8 (c.toNat : Int)) := by
  refine ⟨_, _, Lib.run_convert_string_bytes (P := Tryz.prog) w 9 67 5 x Tryz.underlying9 Tryz.underlying67 Tryz.underlying5, ?_, by rw [Lib.bytesWorld_size]; omega, grownCap_ge _ _ _ _, grownCap_le_maxLen _ _ _ _ hx, ?_⟩
  · exact ⟨rfl, rfl, rfl, by rw [Lib.bytesWorld_size]; omega, fun k hk => Lib.bytesWorld_at_old w _ x k hk⟩
  · intro j c hc
    have hl := lt_of_some hc
    rw [ba_len] at hl
    rw [Lib.bytesWorld_cell w _ x j hl, List.getD_eq_getElem?_getD, hc]
    rfl
set_option maxRecDepth 100000 in
set_option maxHeartbeats 1000000 in
theorem parseU_any (s : ByteArray) (w : World) (hb : ∀ c ∈ s.data.toList, isBit c = true) (h1 : 1 ≤ s.size) (h2 : s.size ≤ 63) :
    Calls Tryz.prog 105 #[.string s, .int .i64 2, .int .i64 64] w fun e w' => e = .returned (.tuple #[.int .u64 (valW s.data.toList : Int), .nilIface]) ∧ Below w.heap.size w w' := by
  obtain ⟨w1, cap, hconv, hb1, hlt1, hcap1, hcap2, hcell⟩ := conv_bytes w s (by unfold maxLen; omega)
  have HB1 := hid hb1
  have HCe := hid hcell
  have HBi := hid hb
  have hln := ba_len s
  have hempty : (s.toList == []) = false := by
    rw [Lib.toList_data]
    cases h : s.data.toList with
    | nil => rw [h] at hln; simp at hln; omega
    | cons a l => rfl
  have HLn := hid hln
  have hcap2 : cap ≤ 9223372036854775807 := hcap2
  clear hb hcell hb1 hln
  go_enter Tryz.func105, Tryz.ntmps105
  go_wp2_with fail
  go_loopw [101, 12, 13] (fun i b u wr => ∃ k : Nat, k ≤ s.size ∧ i = .int .i64 (k : Int) ∧ b = .bool false ∧ u = .int .u64 (valW (s.data.toList.take k) : Int) ∧ Hid (Below w1.heap.size w1 wr)) (fun i _ _ _ => s.size - (intOf i).toNat)
  case atStart => exact ⟨0, Nat.zero_le _, rfl, rfl, rfl, hid (Below.refl _ _)⟩
  case round =>
    obtain ⟨k, hk, rfl, rfl, rfl, HB⟩ := hrel
    rename World => wk
    by_cases hkn : k < s.size
    · obtain ⟨c, hc⟩ := some_of_lt (show k < s.data.toList.length by rw [HLn.out]; exact hkn)
      have hcell := (HB.out.cell (p := ⟨w.heap.size, k, none⟩) hlt1).trans (HCe.out k c hc)
      obtain ⟨hc1, hc2, -⟩ := isBit_val (HBi.out c (List.mem_of_getElem? hc))
      have HX := hid (show valW (s.data.toList.take (k + 1)) = 2 * valW (s.data.toList.take k) + (c.toNat - 48) by rw [take_snoc hc, valW_snoc])
      have hv : valW (s.data.toList.take k) < 2 ^ k := by
        have := valW_lt (s.data.toList.take k) (fun c hc => HBi.out c (List.mem_of_mem_take hc))
        rwa [List.length_take, Nat.min_eq_left (by rw [HLn.out]; exact hk)] at this
      have hp := Nat.pow_le_pow_right (n := 2) (by decide) (show k ≤ 62 by omega)
      have hv2 : valW (s.data.toList.take k) < 4611686018427387904 := by omega
      clear hv hp hc
      generalize valW (s.data.toList.take k) = V at *
      have hmx : IntKind.u64.wrap (IntKind.u64.wrap 18446744073709551616 - 1) = 18446744073709551615 := by decide +kernel
      have k1 : (48 : Int) ≤ (c.toNat : Int) := by omega
      have k2 : (c.toNat : Int) ≤ 57 := by omega
      have k3 : ((c.toNat : Int) == 95) = false := by rw [beq_eq_false_iff_ne]; omega
      have hcw : ((c.toNat : Int) - 48) % 256 = ((c.toNat - 48 : Nat) : Int) := by omega
      have hcw2 : IntKind.u8.wrap ((c.toNat : Int) - 48) = ((c.toNat - 48 : Nat) : Int) := by rw [IntKind.wrap_u8]; omega
      have k4 : ((c.toNat - 48 : Nat) : Int) ≤ 1 := by omega
      generalize c.toNat - 48 = D at *
      have k5 : ¬ (9223372036854775808 : Int) ≤ (V : Int) := by omega
      have k6 : IntKind.u64.wrap ((V : Int) * 2) = ((2 * V : Nat) : Int) := by rw [IntKind.wrap_u64]; omega
      have k7 : IntKind.u64.wrap (((2 * V : Nat) : Int) + (D : Int)) = ((2 * V + D : Nat) : Int) := by rw [IntKind.wrap_u64]; omega
      have k8 : ¬ ((2 * V + D : Nat) : Int) < ((2 * V : Nat) : Int) := by omega
      have k9 : ¬ (18446744073709551615 : Int) < ((2 * V + D : Nat) : Int) := by omega
      clear hv2
      generalize 2 * V + D = V2 at *
      generalize 2 * V = V1 at *
      go_wp2
      go_roundw
      case rel => exact ⟨k + 1, by omega, by go_num, rfl, by rw [HX.out], HB⟩
      case measure => simp [intOf]; omega
    · obtain rfl : k = s.size := by omega
      have HV := hid (show s.data.toList.take s.size = s.data.toList by rw [← HLn.out, List.take_length])
      go_wp2
      go_ret2
      exact ⟨by rw [HV.out]; rfl, bel_step HB1.out HB.out⟩
set_option maxRecDepth 100000 in
set_option maxHeartbeats 1000000 in
theorem parseIn_any (s : ByteArray) (w : World) (hb : ∀ c ∈ s.data.toList, isBit c = true) (h1 : 1 ≤ s.size) (h2 : s.size ≤ 63) :
    Calls Tryz.prog 72 #[.string s, .int .i64 2, .int .i64 64] w fun e w' => e = .returned (.tuple #[.int .i64 (valW s.data.toList : Int), .nilIface]) ∧ Below w.heap.size w w' := by
  have HP := hid (parseU_any s w hb h1 h2)
  have hln := ba_len s
  have hempty : (s.toList == []) = false := by
    rw [Lib.toList_data]
    cases h : s.data.toList with
    | nil => rw [h] at hln; simp at hln; omega
    | cons a l => rfl
  have h0 : 0 < s.size := by omega
  have h0I : (0 : Int) < (s.size : Int) := by omega
  have hbit := hb s[0] (by show s.data[0] ∈ _; simp)
  have hv := valW_lt s.data.toList hb
  rw [hln] at hv
  have hp := Nat.pow_le_pow_right (n := 2) (by decide) h2
  have k1 : ¬ (9223372036854775808 : Int) ≤ (valW s.data.toList : Int) := by
    have : valW s.data.toList < 2 ^ 63 := by omega
    omega
  have k2 : IntKind.i64.wrap (valW s.data.toList : Int) = (valW s.data.toList : Int) := IntWalk.i64_in _ (by omega)
  unfold isBit at hbit
  simp only [Bool.or_eq_true, beq_iff_eq] at hbit
  obtain ⟨c, hc⟩ : ∃ c, s[0] = c := ⟨_, rfl⟩
  rw [hc] at hbit
  clear hb hln hv hp
  generalize valW s.data.toList = V at *
  rcases hbit with rfl | rfl
  · have e1 : (((48 : UInt8).toNat : Int) == 43) = false := by decide
    have e2 : (((48 : UInt8).toNat : Int) == 45) = false := by decide
    go_enter Tryz.func72, Tryz.ntmps72
    go_upto_region 17 with (go_at_call 105; refine HP.out.mono ?_; rintro e w1 ⟨rfl, hb1⟩; have HB1 := hid hb1; clear hb1)
    generalize (9223372036854775808 : Int) = CUT at *
    go_wp2
    go_ret2
    exact ⟨rfl, HB1.out⟩
  · have e1 : (((49 : UInt8).toNat : Int) == 43) = false := by decide
    have e2 : (((49 : UInt8).toNat : Int) == 45) = false := by decide
    go_enter Tryz.func72, Tryz.ntmps72
    go_upto_region 17 with (go_at_call 105; refine HP.out.mono ?_; rintro e w1 ⟨rfl, hb1⟩; have HB1 := hid hb1; clear hb1)
    generalize (9223372036854775808 : Int) = CUT at *
    go_wp2
    go_ret2
    exact ⟨rfl, HB1.out⟩
theorem parse_any (s : ByteArray) (w : World) (hb : ∀ c ∈ s.data.toList, isBit c = true) (h1 : 1 ≤ s.size) (h2 : s.size ≤ 63) :
    Calls Tryz.prog 44 #[.string s, .int .i64 2, .int .i64 64] w fun e w' => e = .returned (.tuple #[.int .i64 (valW s.data.toList : Int), .nilIface]) ∧ Below w.heap.size w w' := by
  have HP := hid (parseIn_any s w hb h1 h2)
  clear hb
  go_enter Tryz.func44, Tryz.ntmps44
  go_wp2_with (go_at_call 72; refine HP.out.mono ?_; rintro e w1 ⟨rfl, hb1⟩; have HB1 := hid hb1; clear hb1)
  go_ret2
  exact ⟨rfl, HB1.out⟩
end Go.Proofs.YtieahckbbohfgaaGreatDoor
