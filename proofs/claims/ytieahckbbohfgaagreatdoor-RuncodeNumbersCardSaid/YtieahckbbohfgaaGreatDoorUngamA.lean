/-
  Gamma words are read back: plain.
  strconv.ParseInt of base 2 at binary digits that are not too many.
  runcode.Ungamma at words over the letters 0 and 1.
  Conditions: No condition: no program in sight. Up to 63 digits, at least one. The word is not longer than 65536.
-/
import Derived.Test.YtieahckbbohfgaaGreatDoorGamma
import Derived.Test.YtieahckbbohfgaaGreatDoorUngol
import Derived.Lib.ConvBytes
import Derived.Test.YtieahckbbohfgaaGreatDoorShelfT
namespace Go.Proofs.YtieahckbbohfgaaGreatDoor
open Go.RowKit
set_option linter.unusedVariables false

/-- How many letters 0 stand at the beginning. -/
def zer (l : List UInt8) : Nat := l.length - (Lib.trimLeftB l 48).length
theorem trimL_le (l : List UInt8) : (Lib.trimLeftB l 48).length ≤ l.length := by
  unfold Lib.trimLeftB
  exact (List.dropWhile_sublist _).length_le
theorem zer_le (l : List UInt8) : zer l ≤ l.length := Nat.sub_le _ _
theorem trimL_rep (k : Nat) (t : List UInt8) : Lib.trimLeftB (List.replicate k 48 ++ 49 :: t) 48 = 49 :: t := by
  induction k with
  | zero => rfl
  | succ k ih => rw [List.replicate_succ, List.cons_append, Lib.trimLeftB, List.dropWhile_cons_of_pos (by rfl)]; exact ih
theorem zer_rep (k : Nat) (t : List UInt8) : zer (List.replicate k 48 ++ 49 :: t) = k := by
  rw [zer, trimL_rep]; simp
/-- What Ungamma answers. -/
def ugV (l : List UInt8) : Value :=
  if 62 < zer l then .tuple #[.int .i64 0, .int .i64 0, .int .i64 4] else
  if l.length < 2 * zer l + 1 then .tuple #[.int .i64 0, .int .i64 0, .int .i64 13] else
  .tuple #[.int .i64 (valW ((l.drop (zer l)).take (zer l + 1)) : Int), .int .i64 ((2 * zer l + 1 : Nat) : Int), .int .i64 0]
theorem dgN_low (n : Nat) (h1 : 1 ≤ n) (hn : n < 9223372036854775808) : 2 ^ (dgN n - 1) ≤ n := by
  rw [dgN, if_neg (by omega)]
  exact (bitLenAux_bounds 64 n (by omega) (by omega)).1
theorem gamW_form (n : Nat) (h1 : 1 ≤ n) (hn : n < 9223372036854775808) : gamW n = List.replicate (dgN n - 1) 48 ++ 49 :: binW n (dgN n - 1) := by
  obtain ⟨d1, d2, d3⟩ := dgN_lt n hn
  have d4 := dgN_low n h1 hn
  obtain ⟨k, hk⟩ : ∃ k, dgN n = k + 1 := ⟨dgN n - 1, by omega⟩
  rw [gamW, hk, Nat.add_sub_cancel, binW_cons]
  rw [hk] at d1 d4
  rw [Nat.add_sub_cancel] at d4
  have h5 : n / 2 ^ k = 1 := by
    have h6 : 1 ≤ n / 2 ^ k := (Nat.le_div_iff_mul_le (Nat.two_pow_pos k)).2 (by omega)
    have h7 : n / 2 ^ k < 2 := (Nat.div_lt_iff_lt_mul (Nat.two_pow_pos k)).2 (by rw [Nat.pow_succ] at d1; omega)
    omega
  rw [h5]
  rfl
theorem gamW_len (n : Nat) (hn : n < 9223372036854775808) : (gamW n).length = 2 * (dgN n - 1) + 1 := by
  obtain ⟨d1, d2, d3⟩ := dgN_lt n hn
  rw [gamW, List.length_append, List.length_replicate, binW_len]
  omega
theorem gamW_bits (n : Nat) : ∀ c ∈ gamW n, isBit c = true := by
  intro c hc
  rcases List.mem_append.1 hc with h | h
  · rw [(List.mem_replicate.1 h).2]; rfl
  · exact binW_bits _ _ c h
theorem ugV_gam (n : Nat) (t : List UInt8) (h1 : 1 ≤ n) (hn : n < 9223372036854775808) : ugV (gamW n ++ t) = .tuple #[.int .i64 (n : Int), .int .i64 ((gamW n).length : Int), .int .i64 0] := by
  obtain ⟨d1, d2, d3⟩ := dgN_lt n hn
  have hz : zer (gamW n ++ t) = dgN n - 1 := by rw [gamW_form n h1 hn, List.append_assoc, List.cons_append, zer_rep]
  have hv : ((gamW n ++ t).drop (dgN n - 1)).take (dgN n - 1 + 1) = binW n (dgN n) := by
    rw [gamW, List.append_assoc, List.drop_left' (by simp), show dgN n - 1 + 1 = dgN n by omega, List.take_left' (binW_len _ _)]
  rw [ugV, hz, if_neg (by omega), if_neg (by rw [List.length_append, gamW_len n hn]; omega), hv, valW_binW, Nat.mod_eq_of_lt d1, gamW_len n hn]
theorem dgN_twice (n : Nat) (h1 : 1 ≤ n) (hn : n < 4611686018427387904) : dgN (2 * n) = dgN n + 1 := by
  rw [dgN, if_neg (by omega), dgN, if_neg (by omega), Lib.bitLen_half (2 * n) (by omega) (by omega), show 2 * n / 2 = n by omega]
  omega
/-- The part of the word that is the number. -/
theorem part_of {l : List UInt8} (h : ¬ l.length < 2 * zer l + 1) : ((l.drop (zer l)).take (zer l + 1)).length = zer l + 1 := by
  rw [List.length_take, List.length_drop]; omega
end Go.Proofs.YtieahckbbohfgaaGreatDoor

namespace Go.Proofs.YtieahckbbohfgaaGreatDoor
open Go.RowKit
set_option linter.unusedVariables false

theorem conv_bytes (w : World) (x : ByteArray) (hx : x.size ≤ maxLen) : ∃ w' cap, (convert 9 67 (.string x)).run Tryz.prog w = .ok (.slice (some ⟨w.heap.size, 0, none⟩) x.size cap) w' ∧ Below w.heap.size w w' ∧ w.heap.size < w'.heap.size ∧ x.size ≤ cap ∧ cap ≤ maxLen ∧
    ∀ (j : Nat) (c : UInt8), x.data.toList[j]? = some c → w'.cell? ⟨w.heap.size, j, none⟩ = some (.int .u8 (c.toNat : Int)) := by
  refine ⟨_, _, Lib.run_convert_string_bytes (P := Tryz.prog) w 9 67 5 x Tryz.underlying9 Tryz.underlying67 Tryz.underlying5, ?_, by rw [Lib.bytesWorld_size]; omega, grownCap_ge _ _ _ _, grownCap_le_maxLen _ _ _ _ hx, ?_⟩
  · exact ⟨rfl, rfl, rfl, by rw [Lib.bytesWorld_size]; omega, fun k hk => Lib.bytesWorld_at_old w _ x k hk⟩
  · intro j c hc
    have hl := lt_of_some hc
    rw [ba_len] at hl
    rw [Lib.bytesWorld_cell w _ x j hl, List.getD_eq_getElem?_getD, hc]
    rfl
set_option maxRecDepth 100000 in
set_option maxHeartbeats 1000000 in
theorem parseU_any (s : ByteArray) (w : World) (hb : ∀ c ∈ s.data.toList, isBit c = true) (h1 : 1 ≤ s.size) (h2 : s.size ≤ 63) :
    Calls Tryz.prog 105 #[.string s, .int .i64 2, .int .i64 64] w fun e w' => e = .returned (.tuple #[.int .u64 (valW s.data.toList : Int), .nilIface]) ∧ Below w.heap.size w w' := by
  obtain ⟨w1, cap, hconv, hb1, hlt1, hcap1, hcap2, hcell⟩ := conv_bytes w s (by unfold maxLen; omega)
  have HB1 := hid hb1
  have HCe := hid hcell
  have HBi := hid hb
  have hln := ba_len s
  have hempty : (s.toList == []) = false := by
    rw [Lib.toList_data]
    cases h : s.data.toList with
    | nil => rw [h] at hln; simp at hln; omega
    | cons a l => rfl
  have HLn := hid hln
  have hcap2 : cap ≤ 9223372036854775807 := hcap2
  clear hb hcell hb1 hln
  go_enter Tryz.func105, Tryz.ntmps105
  go_wp2_with fail
  go_loopw [101, 12, 13] (fun i b u wr => ∃ k : Nat, k ≤ s.size ∧ i = .int .i64 (k : Int) ∧ b = .bool false ∧ u = .int .u64 (valW (s.data.toList.take k) : Int) ∧ Hid (Below w1.heap.size w1 wr)) (fun i _ _ _ => s.size - (intOf i).toNat)
  case atStart => exact ⟨0, Nat.zero_le _, rfl, rfl, rfl, hid (Below.refl _ _)⟩
  case round =>
    obtain ⟨k, hk, rfl, rfl, rfl, HB⟩ := hrel
    rename World => wk
    by_cases hkn : k < s.size
    · obtain ⟨c, hc⟩ := some_of_lt (show k < s.data.toList.length by rw [HLn.out]; exact hkn)
      have hcell := (HB.out.cell (p := ⟨w.heap.size, k, none⟩) hlt1).trans (HCe.out k c hc)
      obtain ⟨hc1, hc2, -⟩ := isBit_val (HBi.out c (List.mem_of_getElem? hc))
      have HX := hid (show valW (s.data.toList.take (k + 1)) = 2 * valW (s.data.toList.take k) + (c.toNat - 48) by rw [take_snoc hc, valW_snoc])
      have hv : valW (s.data.toList.take k) < 2 ^ k := by
        have := valW_lt (s.data.toList.take k) (fun c hc => HBi.out c (List.mem_of_mem_take hc))
        rwa [List.length_take, Nat.min_eq_left (by rw [HLn.out]; exact hk)] at this
      have hp := Nat.pow_le_pow_right (n := 2) (by decide) (show k ≤ 62 by omega)
      have hv2 : valW (s.data.toList.take k) < 4611686018427387904 := by omega
      clear hv hp hc
      generalize valW (s.data.toList.take k) = V at *
      have hmx : IntKind.u64.wrap (IntKind.u64.wrap 18446744073709551616 - 1) = 18446744073709551615 := by decide +kernel
      have k1 : (48 : Int) ≤ (c.toNat : Int) := by omega
      have k2 : (c.toNat : Int) ≤ 57 := by omega
      have k3 : ((c.toNat : Int) == 95) = false := by rw [beq_eq_false_iff_ne]; omega
      have hcw : ((c.toNat : Int) - 48) % 256 = ((c.toNat - 48 : Nat) : Int) := by omega
      have hcw2 : IntKind.u8.wrap ((c.toNat : Int) - 48) = ((c.toNat - 48 : Nat) : Int) := by rw [IntKind.wrap_u8]; omega
      have k4 : ((c.toNat - 48 : Nat) : Int) ≤ 1 := by omega
      generalize c.toNat - 48 = D at *
      have k5 : ¬ (9223372036854775808 : Int) ≤ (V : Int) := by omega
      have k6 : IntKind.u64.wrap ((V : Int) * 2) = ((2 * V : Nat) : Int) := by rw [IntKind.wrap_u64]; omega
      have k7 : IntKind.u64.wrap (((2 * V : Nat) : Int) + (D : Int)) = ((2 * V + D : Nat) : Int) := by rw [IntKind.wrap_u64]; omega
      have k8 : ¬ ((2 * V + D : Nat) : Int) < ((2 * V : Nat) : Int) := by omega
      have k9 : ¬ (18446744073709551615 : Int) < ((2 * V + D : Nat) : Int) := by omega
      clear hv2
      generalize 2 * V + D = V2 at *
      generalize 2 * V = V1 at *
      go_wp2
      go_roundw
      case rel => exact ⟨k + 1, by omega, by go_num, rfl, by rw [HX.out], HB⟩
      case measure => simp [intOf]; omega
    · obtain rfl : k = s.size := by omega
      have HV := hid (show s.data.toList.take s.size = s.data.toList by rw [← HLn.out, List.take_length])
      go_wp2
      go_ret2
      exact ⟨by rw [HV.out]; rfl, bel_step HB1.out HB.out⟩
set_option maxRecDepth 100000 in
set_option maxHeartbeats 1000000 in
theorem parseIn_any (s : ByteArray) (w : World) (hb : ∀ c ∈ s.data.toList, isBit c = true) (h1 : 1 ≤ s.size) (h2 : s.size ≤ 63) :
    Calls Tryz.prog 72 #[.string s, .int .i64 2, .int .i64 64] w fun e w' => e = .returned (.tuple #[.int .i64 (valW s.data.toList : Int), .nilIface]) ∧ Below w.heap.size w w' := by
  have HP := hid (parseU_any s w hb h1 h2)
  have hln := ba_len s
  have hempty : (s.toList == []) = false := by
    rw [Lib.toList_data]
    cases h : s.data.toList with
    | nil => rw [h] at hln; simp at hln; omega
    | cons a l => rfl
  have h0 : 0 < s.size := by omega
  have h0I : (0 : Int) < (s.size : Int) := by omega
  have hbit := hb s[0] (by show s.data[0] ∈ _; simp)
  have hv := valW_lt s.data.toList hb
  rw [hln] at hv
  have hp := Nat.pow_le_pow_right (n := 2) (by decide) h2
  have k1 : ¬ (9223372036854775808 : Int) ≤ (valW s.data.toList : Int) := by
    have : valW s.data.toList < 2 ^ 63 := by omega
    omega
  have k2 : IntKind.i64.wrap (valW s.data.toList : Int) = (valW s.data.toList : Int) := IntWalk.i64_in _ (by omega)
  unfold isBit at hbit
  simp only [Bool.or_eq_true, beq_iff_eq] at hbit
  obtain ⟨c, hc⟩ : ∃ c, s[0] = c := ⟨_, rfl⟩
  rw [hc] at hbit
  clear hb hln hv hp
  generalize valW s.data.toList = V at *
  rcases hbit with rfl | rfl
  · have e1 : (((48 : UInt8).toNat : Int) == 43) = false := by decide
    have e2 : (((48 : UInt8).toNat : Int) == 45) = false := by decide
    go_enter Tryz.func72, Tryz.ntmps72
    go_upto_region 17 with (go_at_call 105; refine HP.out.mono ?_; rintro e w1 ⟨rfl, hb1⟩; have HB1 := hid hb1; clear hb1)
    generalize (9223372036854775808 : Int) = CUT at *
    go_wp2
    go_ret2
    exact ⟨rfl, HB1.out⟩
  · have e1 : (((49 : UInt8).toNat : Int) == 43) = false := by decide
    have e2 : (((49 : UInt8).toNat : Int) == 45) = false := by decide
    go_enter Tryz.func72, Tryz.ntmps72
    go_upto_region 17 with (go_at_call 105; refine HP.out.mono ?_; rintro e w1 ⟨rfl, hb1⟩; have HB1 := hid hb1; clear hb1)
    generalize (9223372036854775808 : Int) = CUT at *
    go_wp2
    go_ret2
    exact ⟨rfl, HB1.out⟩
theorem parse_any (s : ByteArray) (w : World) (hb : ∀ c ∈ s.data.toList, isBit c = true) (h1 : 1 ≤ s.size) (h2 : s.size ≤ 63) :
    Calls Tryz.prog 44 #[.string s, .int .i64 2, .int .i64 64] w fun e w' => e = .returned (.tuple #[.int .i64 (valW s.data.toList : Int), .nilIface]) ∧ Below w.heap.size w w' := by
  have HP := hid (parseIn_any s w hb h1 h2)
  clear hb
  go_enter Tryz.func44, Tryz.ntmps44
  go_wp2_with (go_at_call 72; refine HP.out.mono ?_; rintro e w1 ⟨rfl, hb1⟩; have HB1 := hid hb1; clear hb1)
  go_ret2
  exact ⟨rfl, HB1.out⟩
end Go.Proofs.YtieahckbbohfgaaGreatDoor

namespace Go.Proofs.YtieahckbbohfgaaGreatDoor
open Go.RowKit
set_option linter.unusedVariables false

theorem extract_part (s : ByteArray) (z : Nat) : (s.extract z (2 * z + 1)).data.toList = (s.data.toList.drop z).take (z + 1) := by
  rw [ByteArray.data_extract, Array.toList_extract, List.extract_eq_take_drop]
  rw [show 2 * z + 1 - z = z + 1 by omega]
set_option maxRecDepth 100000 in
set_option maxHeartbeats 1000000 in
theorem ungam_any (s : ByteArray) (w : World) (hE : wordErr 2 s = 0) :
    Calls Tryz.prog 21 #[.string s] w fun e w' => e = .returned (ugV s.data.toList) ∧ Below w.heap.size w w' := by
  obtain ⟨hbits, hsz⟩ := bits_of hE
  have HCk := hid (fun X => wcheck_any 2 s X)
  rw [hE] at HCk
  have HTl := hid (fun X => Tryz.strings_TrimLeft_one s 48 (by decide) X)
  obtain ⟨T, hT⟩ : ∃ T : ByteArray, (⟨(Lib.trimLeftB s.data.toList 48).toArray⟩ : ByteArray) = T := ⟨_, rfl⟩
  have hts : T.size = (Lib.trimLeftB s.data.toList 48).length := by rw [← hT]; simp [ByteArray.size]
  have hle := trimL_le s.data.toList
  have hln := ba_len s
  rw [hT] at HTl
  have hz : (s.size : Int) - (T.size : Int) = (zer s.data.toList : Int) := by rw [hts, zer]; omega
  have hzl := zer_le s.data.toList
  have HU : Hid (ugV s.data.toList = if 62 < zer s.data.toList then .tuple #[.int .i64 0, .int .i64 0, .int .i64 4] else
    if s.data.toList.length < 2 * zer s.data.toList + 1 then .tuple #[.int .i64 0, .int .i64 0, .int .i64 13] else
    .tuple #[.int .i64 (valW ((s.data.toList.drop (zer s.data.toList)).take (zer s.data.toList + 1)) : Int), .int .i64 ((2 * zer s.data.toList + 1 : Nat) : Int), .int .i64 0]) := hid rfl
  have hpart := part_of (l := s.data.toList)
  have HPa := hid (fun X (h : ¬ s.data.toList.length < 2 * zer s.data.toList + 1) (h2 : zer s.data.toList ≤ 62) => parse_any (s.extract (zer s.data.toList) (2 * zer s.data.toList + 1)) X (fun c hc => by
      rw [extract_part] at hc
      exact hbits c (List.mem_of_mem_drop (List.mem_of_mem_take hc)))
    (by rw [← ba_len, extract_part, hpart h]; omega) (by rw [← ba_len, extract_part, hpart h]; omega))
  have HEx := hid (extract_part s (zer s.data.toList))
  rw [hln] at HPa HU hzl
  clear hbits hE hT hts hle hln hpart
  generalize zer s.data.toList = z at *
  have h62 : ((z : Int) > 62) = ((62 : Int) < (z : Int)) := rfl
  by_cases hz1 : 62 < z
  · have HV := hid (HU.out.trans (if_pos hz1))
    have hI : (62 : Int) < (z : Int) := by omega
    go_enter Tryz.func21, Tryz.ntmps21
    go_wp2_with (first
      | (go_at_call 10; refine (HCk.out _).mono ?_; rintro e w1 ⟨rfl, hD⟩; have HB1 := hid (hD.below w.heap.size); clear hD)
      | (go_at_call 43; refine (HTl.out _).mono ?_; rintro e w2 ⟨rfl, rfl⟩))
    go_ret3
    exact ⟨by rw [HV.out]; rfl, HB1.out⟩
  · have hV := HU.out.trans (if_neg hz1)
    have hI : ¬ (62 : Int) < (z : Int) := by omega
    by_cases hl : s.size < 2 * z + 1
    · have HV := hid (hV.trans (if_pos hl))
      have hI2 : (s.size : Int) < 2 * (z : Int) + 1 := by omega
      clear hV
      go_enter Tryz.func21, Tryz.ntmps21
      go_wp2_with (first
        | (go_at_call 10; refine (HCk.out _).mono ?_; rintro e w1 ⟨rfl, hD⟩; have HB1 := hid (hD.below w.heap.size); clear hD)
        | (go_at_call 43; refine (HTl.out _).mono ?_; rintro e w2 ⟨rfl, rfl⟩))
      go_ret3
      exact ⟨by rw [HV.out]; rfl, HB1.out⟩
    · have HV := hid (hV.trans (if_neg hl))
      have hI2 : ¬ (s.size : Int) < 2 * (z : Int) + 1 := by omega
      have HP := hid (fun X => HPa.out X hl (by omega))
      rw [HEx.out] at HP
      have j1 : (z : Int) ≤ 2 * (z : Int) + 1 := by omega
      have j2 : 2 * (z : Int) + 1 ≤ (s.size : Int) := by omega
      have j3 : z ≤ 2 * z + 1 := by omega
      have j4 : 2 * z + 1 ≤ s.size := by omega
      clear hV HPa HEx HU
      generalize valW ((s.data.toList.drop z).take (z + 1)) = R at *
      go_enter Tryz.func21, Tryz.ntmps21
      go_wp2_with (first
        | (go_at_call 10; refine (HCk.out _).mono ?_; rintro e w1 ⟨rfl, hD⟩; have HB1 := hid (hD.below w.heap.size); clear hD)
        | (go_at_call 43; refine (HTl.out _).mono ?_; rintro e w2 ⟨rfl, rfl⟩)
        | (go_at_call 44; refine (HP.out _).mono ?_; rintro e w3 ⟨rfl, hb3⟩; have HB3 := hid (bel_step HB1.out hb3); clear hb3))
      go_ret3
      exact ⟨by rw [HV.out]; simp, HB3.out⟩
end Go.Proofs.YtieahckbbohfgaaGreatDoor
