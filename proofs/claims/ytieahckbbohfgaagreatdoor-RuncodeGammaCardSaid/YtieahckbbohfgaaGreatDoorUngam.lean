/-
  runcode.Ungamma at words over the letters 0 and 1.
  The word is not longer than 65536.
-/
import Derived.Test.YtieahckbbohfgaaGreatDoorGamLaw
import Derived.Test.YtieahckbbohfgaaGreatDoorParBin
import Derived.Test.YtieahckbbohfgaaGreatDoorShelfT
namespace Go.Proofs.YtieahckbbohfgaaGreatDoor
open Go.RowKit
set_option linter.unusedVariables false

theorem extract_part (s : ByteArray) (z : Nat) : (s.extract z (2 * z + 1)).data.toList = (s.data.toList.drop z).take (z + 1) := by
  rw [ByteArray.data_extract, Array.toList_extract, List.extract_eq_take_drop]
  rw [show 2 * z + 1 - z = z + 1 by omega]
set_option maxRecDepth 100000 in
set_option maxHeartbeats 1000000 in
theorem ungam_any (s : ByteArray) (w : World) (hE : wordErr 2 s = 0) :
    Calls Tryz.prog 21 #[.string s] w fun e w' => e = .returned (ugV s.data.toList) ∧ Below w.heap.size w w' := by
  obtain ⟨hbits, hsz⟩ := bits_of hE
  have HCk := hid (fun X => wcheck_any 2 s X)
  rw [hE] at HCk
  have HTl := hid (fun X => Tryz.strings_TrimLeft_one s 48 (by decide) X)
  obtain ⟨T, hT⟩ : ∃ T : ByteArray, (⟨(Lib.trimLeftB s.data.toList 48).toArray⟩ : ByteArray) = T := ⟨_, rfl⟩
  have hts : T.size = (Lib.trimLeftB s.data.toList 48).length := by rw [← hT]; simp [ByteArray.size]
  have hle := trimL_le s.data.toList
  have hln := ba_len s
  rw [hT] at HTl
  have hz : (s.size : Int) - (T.size : Int) = (zer s.data.toList : Int) := by rw [hts, zer]; omega
  have hzl := zer_le s.data.toList
  have HU : Hid (ugV s.data.toList = if 62 < zer s.data.toList then .tuple #[.int .i64 0, .int .i64 0, .int .i64 4] else
    if s.data.toList.length < 2 * zer s.data.toList + 1 then .tuple #[.int .i64 0, .int .i64 0, .int .i64 13] else
    .tuple #[.int .i64 (valW ((s.data.toList.drop (zer s.data.toList)).take (zer s.data.toList + 1)) : Int), .int .i64 ((2 * zer s.data.toList + 1 : Nat) : Int), .int .i64 0]) := hid rfl
  have hpart := part_of (l := s.data.toList)
  have HPa := hid (fun X (h : ¬ s.data.toList.length < 2 * zer s.data.toList + 1) (h2 : zer s.data.toList ≤ 62) => parse_any (s.extract (zer s.data.toList) (2 * zer s.data.toList + 1)) X (fun c hc => by
      rw [extract_part] at hc
      exact hbits c (List.mem_of_mem_drop (List.mem_of_mem_take hc)))
    (by rw [← ba_len, extract_part, hpart h]; omega) (by rw [← ba_len, extract_part, hpart h]; omega))
  have HEx := hid (extract_part s (zer s.data.toList))
  rw [hln] at HPa HU hzl
  clear hbits hE hT hts hle hln hpart
  generalize zer s.data.toList = z at *
  have h62 : ((z : Int) > 62) = ((62 : Int) < (z : Int)) := rfl
  by_cases hz1 : 62 < z
  · have HV := hid (HU.out.trans (if_pos hz1))
    have hI : (62 : Int) < (z : Int) := by omega
    go_enter Tryz.func21, Tryz.ntmps21
    go_wp2_with (first
      | (go_at_call 10; refine (HCk.out _).mono ?_; rintro e w1 ⟨rfl, hD⟩; have HB1 := hid (hD.below w.heap.size); clear hD)
      | (go_at_call 43; refine (HTl.out _).mono ?_; rintro e w2 ⟨rfl, rfl⟩))
    go_ret3
    exact ⟨by rw [HV.out]; rfl, HB1.out⟩
  · have hV := HU.out.trans (if_neg hz1)
    have hI : ¬ (62 : Int) < (z : Int) := by omega
    by_cases hl : s.size < 2 * z + 1
    · have HV := hid (hV.trans (if_pos hl))
      have hI2 : (s.size : Int) < 2 * (z : Int) + 1 := by omega
      clear hV
      go_enter Tryz.func21, Tryz.ntmps21
      go_wp2_with (first
        | (go_at_call 10; refine (HCk.out _).mono ?_; rintro e w1 ⟨rfl, hD⟩; have HB1 := hid (hD.below w.heap.size); clear hD)
        | (go_at_call 43; refine (HTl.out _).mono ?_; rintro e w2 ⟨rfl, rfl⟩))
      go_ret3
      exact ⟨by rw [HV.out]; rfl, HB1.out⟩
    · have HV := hid (hV.trans (if_neg hl))
      have hI2 : ¬ (s.size : Int) < 2 * (z : Int) + 1 := by omega
      have HP := hid (fun X => HPa.out X hl (by omega))
      rw [HEx.out] at HP
      have j1 : (z : Int) ≤ 2 * (z : Int) + 1 := by omega
      have j2 : 2 * (z : Int) + 1 ≤ (s.size : Int) := by omega
      have j3 : z ≤ 2 * z + 1 := by omega
      have j4 : 2 * z + 1 ≤ s.size := by omega
      clear hV HPa HEx HU
      generalize valW ((s.data.toList.drop z).take (z + 1)) = R at *
      go_enter Tryz.func21, Tryz.ntmps21
      go_wp2_with (first
        | (go_at_call 10; refine (HCk.out _).mono ?_; rintro e w1 ⟨rfl, hD⟩; have HB1 := hid (hD.below w.heap.size); clear hD)
        | (go_at_call 43; refine (HTl.out _).mono ?_; rintro e w2 ⟨rfl, rfl⟩)
        | (go_at_call 44; refine (HP.out _).mono ?_; rintro e w3 ⟨rfl, hb3⟩; have HB3 := hid (bel_step HB1.out hb3); clear hb3))
      go_ret3
      exact ⟨by rw [HV.out]; simp, HB3.out⟩
end Go.Proofs.YtieahckbbohfgaaGreatDoor
