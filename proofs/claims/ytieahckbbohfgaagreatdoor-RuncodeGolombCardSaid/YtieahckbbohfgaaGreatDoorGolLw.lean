/-
  The law RuncodeGolomb: the walk.
  No condition.
-/
import Derived.Test.YtieahckbbohfgaaGreatDoorRows
import Derived.Test.YtieahckbbohfgaaGreatDoorAwk42
import Derived.Test.YtieahckbbohfgaaGreatDoorUngol
import Derived.Lib.LaidTab
import Derived.LaidMore
import Derived.MakeChecks
namespace Go.Proofs.YtieahckbbohfgaaGreatDoor
open Go.RowKit
set_option linter.unusedVariables false

theorem maxLen_of {w : World} (h : w.ShapedOpen Tryz.prog) : ∃ m, w.cell? ⟨0, 0, none⟩ = some (.int .i64 m) := Tryz.laysM146.s1_3 w h
theorem tabG_laid {W : World} (h : laidMetH Tryz.prog Rows.runcodeGolombRow.laid W) : TabAt 7 Lib.deBruijn64tab W := by
  rw [MakeChecks.laidMetH_plain _ _ _ (by kernel_rfl)] at h
  obtain ⟨ps, ⟨_, _, _, _, _, _, _, _, _, _, ⟨g, t, cs, fuel, p, q, hg, ht, hv, hd, _, _⟩, _⟩, _⟩ := h
  obtain rfl := Option.some.inj ((show Tryz.prog.globalNamed "math/bits.deBruijn64tab" = some 7 by kernel_rfl).symm.trans hg)
  obtain rfl := Option.some.inj ((show (Tryz.prog.globals[7]?).map (·.type) = some 212 by kernel_rfl).symm.trans ht)
  have hc := Lib.cells_of_tab (zs := Lib.deBruijn64tab.map Int.ofNat) Tryz.underlying212 Tryz.underlying5 (by kernel_rfl) (by kernel_rfl) hd
  intro j hj
  have hl : Lib.deBruijn64tab.length = 64 := by decide
  rw [World.var?_cell hg hv j, ← Array.getElem?_toList, hc, List.map_map, List.getElem?_map, List.getElem?_eq_getElem (by omega)]
  rw [List.getD_eq_getElem?_getD, List.getElem?_eq_getElem (by omega)]
  rfl
theorem wordErr_bits {s : ByteArray} (h : ∀ c ∈ s.data.toList, isBit c = true) (hs : s.size ≤ 65536) : wordErr 2 s = 0 := by
  refine wordErr_zero.2 ⟨by decide, by decide, hs, ?_⟩
  unfold okWord
  rw [List.all_eq_true]
  intro c hc
  have := h c hc
  unfold isBit at this
  simp only [Bool.or_eq_true, beq_iff_eq] at this
  rcases this with rfl | rfl <;> decide
theorem strW_data (l : List UInt8) (z : ByteArray) : (strW l ++ z).data.toList = l ++ z.data.toList := by
  simp [strW]
theorem golW_thousand {x n : Nat} (h1 : 1 ≤ x) (h2 : x ≤ 40) (hn : n ≤ 1000) : (golW x n).length ≤ 1017 ∧ golV x n = .tuple #[.string (strW (golW x n)), .int .i64 0] := by
  have h3 := Nat.div_le_self n x
  have h4 := golT_small x (n % x) (by omega)
  rw [golW_len, golV]
  generalize n / x = q at *
  rw [if_neg (by omega)]
  exact ⟨by omega, rfl⟩
theorem pre_false {x a b : Nat} (h1 : 1 ≤ x) (h2 : x ≤ 40) (h : a ≠ b) : Lib.hasPrefix (golW x a) (golW x b) = false := by
  cases hp : Lib.hasPrefix (golW x a) (golW x b) with
  | false => rfl
  | true => exact absurd (golW_prefix h1 (by omega) (List.isPrefixOf_iff_prefix.1 hp)) (Ne.symm h)
set_option maxRecDepth 100000 in
set_option maxHeartbeats 1000000 in
theorem runcodeGolomb_any (A B C : Int) (z : ByteArray) (w : World) (hA0 : IntKind.u8.min ≤ A) (hA1 : A ≤ IntKind.u8.max) (hB0 : IntKind.u16.min ≤ B) (hB1 : B ≤ IntKind.u16.max) (hC0 : IntKind.u16.min ≤ C) (hC1 : C ≤ IntKind.u16.max) (hz : z.size ≤ maxLen) (hL : laidMetH Tryz.prog Rows.runcodeGolombRow.laid w) (hG : w.ShapedOpen Tryz.prog) :
    Calls Tryz.prog 4 #[.int .u8 A, .int .u16 B, .int .u16 C, .string z] w fun e w' => e = .returned (.bool true) ∧ Below w.heap.size w w' := by
  have hA0 : 0 ≤ A := hA0
  have hA1 : A ≤ 255 := hA1
  have hB0 : 0 ≤ B := hB0
  have hB1 : B ≤ 65535 := hB1
  have hC0 : 0 ≤ C := hC0
  have hC1 : C ≤ 65535 := hC1
  obtain ⟨mx, hmx⟩ := maxLen_of hG
  have hT := tabG_laid hL
  have HAw := hid (fun X (h : Below w.heap.size w X) => awake42_any mx X (tab_below hT h) (keeps h hmx))
  have eA : A.tmod 40 = A % 40 := Int.tmod_eq_emod_of_nonneg hA0
  have eB : B.tmod 1001 = B % 1001 := Int.tmod_eq_emod_of_nonneg hB0
  have eC : C.tmod 1001 = C % 1001 := Int.tmod_eq_emod_of_nonneg hC0
  obtain ⟨x, hx, hx1, hx2⟩ : ∃ x : Nat, (1 : Int) + A % 40 = (x : Int) ∧ 1 ≤ x ∧ x ≤ 40 := ⟨(1 + A % 40).toNat, by omega, by omega, by omega⟩
  obtain ⟨a, ha, ha1⟩ : ∃ a : Nat, B % 1001 = (a : Int) ∧ a ≤ 1000 := ⟨(B % 1001).toNat, by omega, by omega⟩
  obtain ⟨b, hb, hb1⟩ : ∃ b : Nat, C % 1001 = (b : Int) ∧ b ≤ 1000 := ⟨(C % 1001).toNat, by omega, by omega⟩
  have HCk := hid (fun X => wcheck_any 2 z X)
  by_cases hz60 : 60 < z.size
  · have hzI : (60 : Int) < (z.size : Int) := by omega
    clear hL hG hT hmx
    go_enter Tryz.func4, Tryz.ntmps4
    go_wp2_with (go_at_call 9; refine (HAw.out _ (Below.refl _ _)).mono ?_; rintro e w2 ⟨rfl, hb2⟩; have HB2 := hid hb2; clear hb2)
    go_ret
    exact ⟨rfl, HB2.out⟩
  · have hzI : ¬ (60 : Int) < (z.size : Int) := by omega
    by_cases hE : wordErr 2 z = 0
    · rw [hE] at HCk
      obtain ⟨hzb, _⟩ := bits_of hE
      obtain ⟨la, ga⟩ := golW_thousand hx1 hx2 ha1
      obtain ⟨lb, gb⟩ := golW_thousand hx1 hx2 hb1
      have HGa := hid (fun X h => golomb_any x a X hx1 (by omega) (by omega) h)
      have HGb := hid (fun X h => golomb_any x b X hx1 (by omega) (by omega) h)
      rw [ga] at HGa
      rw [gb] at HGb
      have HTb := hid (fun X (h : Below w.heap.size w X) => tab_below hT h)
      have HUn := hid (fun X => ungol_any x (strW (golW x a) ++ z) X hx1 (by omega) (wordErr_bits (fun c hc => by
        rw [strW_data] at hc
        rcases List.mem_append.1 hc with h | h
        · exact golW_bits _ _ c h
        · exact hzb c h) (by rw [ByteArray.size_append, strW_size]; omega)))
      rw [strW_data, ungV, ungol_gol hx1 (by omega) _ hzb] at HUn
      have hcat := fun X => cat_small (strW (golW x a)) z X (by rw [strW_size]; omega)
      have hsa := strW_size (golW x a)
      have hsb := strW_size (golW x b)
      simp only at HUn
      rw [← hsa] at HUn
      have HP1 := hid (fun X => Tryz.strings_HasPrefix (strW (golW x a)) (strW (golW x b)) X)
      have HP2 := hid (fun X => Tryz.strings_HasPrefix (strW (golW x b)) (strW (golW x a)) X)
      rw [show (strW (golW x a)).data.toList = golW x a from rfl, show (strW (golW x b)).data.toList = golW x b from rfl] at HP1 HP2
      have hmo1 := fun h => golW_mono (m := x) (a := a) (b := b) hx1 (by omega) h
      have hmo2 := fun h => golW_mono (m := x) (a := b) (b := a) hx1 (by omega) h
      rw [← hsa, ← hsb] at hmo1 hmo2
      rw [← hsa] at la
      rw [← hsb] at lb
      have hpf1 := fun h => pre_false (x := x) (a := a) (b := b) hx1 hx2 h
      have hpf2 := fun h => pre_false (x := x) (a := b) (b := a) hx1 hx2 h
      clear hL hG hT hmx hE hzb ga gb hsa hsb
      generalize Lib.hasPrefix (golW x a) (golW x b) = p1 at *
      generalize Lib.hasPrefix (golW x b) (golW x a) = p2 at *
      generalize strW (golW x a) ++ z = S at *
      generalize strW (golW x a) = U at *
      generalize strW (golW x b) = V at *
      by_cases hab : a = b
      · have h1 : ((a : Int) == (b : Int)) = true := by rw [beq_iff_eq]; omega
        have h2 : ¬ (b : Int) < (a : Int) := by omega
        have h3 : (U.size : Int) ≤ (V.size : Int) := by have := hmo1 (by omega); omega
        clear hmo1 hmo2 hpf1 hpf2 hab
        go_enter Tryz.func4, Tryz.ntmps4
        go_upto_region 5 with (first
          | (go_at_call 10; refine (HCk.out _).mono ?_; rintro e w1 ⟨rfl, hD⟩; have HB1 := hid (hD.below w.heap.size); clear hD)
          | (go_at_call 8; refine (HGa.out _ (HTb.out _ HB1.out)).mono ?_; rintro e w2 ⟨rfl, hb2⟩; have HB2 := hid (bel_step HB1.out hb2); clear hb2))
        go_wp2_with (first
          | (go_at_call 8; refine (HGb.out _ (HTb.out _ HB2.out)).mono ?_; rintro e w3 ⟨rfl, hb3⟩; have HB3 := hid (bel_step HB2.out hb3); clear hb3)
          | (go_at_call 11; refine (HUn.out _).mono ?_; rintro e w4 ⟨rfl, hb4⟩; have HB4 := hid (bel_step HB3.out hb4); clear hb4)
          | (go_at_call 12; refine (HP1.out _).mono ?_; rintro e w5 ⟨rfl, rfl⟩)
          | (go_at_call 12; refine (HP2.out _).mono ?_; rintro e w5 ⟨rfl, rfl⟩)
          | (go_at_call 9; refine (HAw.out _ HB4.out).mono ?_; rintro e w6 ⟨rfl, hb6⟩; have HB6 := hid (bel_step HB4.out hb6); clear hb6))
        go_ret
        exact ⟨rfl, HB6.out⟩
      · obtain rfl := hpf1 hab
        obtain rfl := hpf2 (Ne.symm hab)
        have h1 : ((a : Int) == (b : Int)) = false := by rw [beq_eq_false_iff_ne]; omega
        by_cases hlt : b < a
        · have h2 : (b : Int) < (a : Int) := by omega
          clear hmo1 hmo2 hpf1 hpf2 hab
          go_enter Tryz.func4, Tryz.ntmps4
          go_upto_region 5 with (first
            | (go_at_call 10; refine (HCk.out _).mono ?_; rintro e w1 ⟨rfl, hD⟩; have HB1 := hid (hD.below w.heap.size); clear hD)
            | (go_at_call 8; refine (HGa.out _ (HTb.out _ HB1.out)).mono ?_; rintro e w2 ⟨rfl, hb2⟩; have HB2 := hid (bel_step HB1.out hb2); clear hb2))
          go_wp2_with (first
            | (go_at_call 8; refine (HGb.out _ (HTb.out _ HB2.out)).mono ?_; rintro e w3 ⟨rfl, hb3⟩; have HB3 := hid (bel_step HB2.out hb3); clear hb3)
            | (go_at_call 11; refine (HUn.out _).mono ?_; rintro e w4 ⟨rfl, hb4⟩; have HB4 := hid (bel_step HB3.out hb4); clear hb4)
            | (go_at_call 12; refine (HP1.out _).mono ?_; rintro e w5 ⟨rfl, rfl⟩)
            | (go_at_call 12; refine (HP2.out _).mono ?_; rintro e w5 ⟨rfl, rfl⟩)
            | (go_at_call 9; refine (HAw.out _ HB4.out).mono ?_; rintro e w6 ⟨rfl, hb6⟩; have HB6 := hid (bel_step HB4.out hb6); clear hb6))
          go_ret
          exact ⟨rfl, HB6.out⟩
        · have h2 : ¬ (b : Int) < (a : Int) := by omega
          have h3 : (U.size : Int) ≤ (V.size : Int) := by have := hmo1 (by omega); omega
          clear hmo1 hmo2 hpf1 hpf2 hab
          go_enter Tryz.func4, Tryz.ntmps4
          go_upto_region 5 with (first
            | (go_at_call 10; refine (HCk.out _).mono ?_; rintro e w1 ⟨rfl, hD⟩; have HB1 := hid (hD.below w.heap.size); clear hD)
            | (go_at_call 8; refine (HGa.out _ (HTb.out _ HB1.out)).mono ?_; rintro e w2 ⟨rfl, hb2⟩; have HB2 := hid (bel_step HB1.out hb2); clear hb2))
          go_wp2_with (first
            | (go_at_call 8; refine (HGb.out _ (HTb.out _ HB2.out)).mono ?_; rintro e w3 ⟨rfl, hb3⟩; have HB3 := hid (bel_step HB2.out hb3); clear hb3)
            | (go_at_call 11; refine (HUn.out _).mono ?_; rintro e w4 ⟨rfl, hb4⟩; have HB4 := hid (bel_step HB3.out hb4); clear hb4)
            | (go_at_call 12; refine (HP1.out _).mono ?_; rintro e w5 ⟨rfl, rfl⟩)
            | (go_at_call 12; refine (HP2.out _).mono ?_; rintro e w5 ⟨rfl, rfl⟩)
            | (go_at_call 9; refine (HAw.out _ HB4.out).mono ?_; rintro e w6 ⟨rfl, hb6⟩; have HB6 := hid (bel_step HB4.out hb6); clear hb6))
          go_ret
          exact ⟨rfl, HB6.out⟩
    · have hEn : (wordErr 2 z != 0) = true := by simp [hE]
      clear hL hG hT hmx
      generalize wordErr 2 z = E at *
      go_enter Tryz.func4, Tryz.ntmps4
      go_wp2_with (first
        | (go_at_call 10; refine (HCk.out _).mono ?_; rintro e w1 ⟨rfl, hD⟩; have HB1 := hid (hD.below w.heap.size); clear hD)
        | (go_at_call 9; refine (HAw.out _ HB1.out).mono ?_; rintro e w2 ⟨rfl, hb2⟩; have HB2 := hid (bel_step HB1.out hb2); clear hb2))
      go_ret
      exact ⟨rfl, HB2.out⟩
end Go.Proofs.YtieahckbbohfgaaGreatDoor
