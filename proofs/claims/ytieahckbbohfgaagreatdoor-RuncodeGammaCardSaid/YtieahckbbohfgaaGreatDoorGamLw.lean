/-
  The law RuncodeGamma: the walk.
  No condition.
-/
import Derived.Test.YtieahckbbohfgaaGreatDoorRows
import Derived.Test.YtieahckbbohfgaaGreatDoorAwk42
import Derived.Test.YtieahckbbohfgaaGreatDoorUngam
import Derived.Lib.LaidTab
import Derived.LaidMore
import Derived.MakeChecks
namespace Go.Proofs.YtieahckbbohfgaaGreatDoor
open Go.RowKit
set_option linter.unusedVariables false

theorem maxLen_of {w : World} (h : w.ShapedOpen Tryz.prog) : ∃ m, w.cell? ⟨0, 0, none⟩ = some (.int .i64 m) := Tryz.laysM146.s1_3 w h
theorem tabM_laid {W : World} (h : laidMetH Tryz.prog Rows.runcodeGammaRow.laid W) : TabAt 7 Lib.deBruijn64tab W := by
  rw [MakeChecks.laidMetH_plain _ _ _ (by kernel_rfl)] at h
  obtain ⟨ps, ⟨_, _, _, _, _, _, _, _, _, _, ⟨g, t, cs, fuel, p, q, hg, ht, hv, hd, _, _⟩, _⟩, _⟩ := h
  obtain rfl := Option.some.inj ((show Tryz.prog.globalNamed "math/bits.deBruijn64tab" = some 7 by kernel_rfl).symm.trans hg)
  obtain rfl := Option.some.inj ((show (Tryz.prog.globals[7]?).map (·.type) = some 212 by kernel_rfl).symm.trans ht)
  have hc := Lib.cells_of_tab (zs := Lib.deBruijn64tab.map Int.ofNat) Tryz.underlying212 Tryz.underlying5 (by kernel_rfl) (by kernel_rfl) hd
  intro j hj
  have hl : Lib.deBruijn64tab.length = 64 := by decide
  rw [World.var?_cell hg hv j, ← Array.getElem?_toList, hc, List.map_map, List.getElem?_map, List.getElem?_eq_getElem (by omega)]
  rw [List.getD_eq_getElem?_getD, List.getElem?_eq_getElem (by omega)]
  rfl
theorem wordErr_bits {s : ByteArray} (h : ∀ c ∈ s.data.toList, isBit c = true) (hs : s.size ≤ 65536) : wordErr 2 s = 0 := by
  refine wordErr_zero.2 ⟨by decide, by decide, hs, ?_⟩
  unfold okWord
  rw [List.all_eq_true]
  intro c hc
  have := h c hc
  unfold isBit at this
  simp only [Bool.or_eq_true, beq_iff_eq] at this
  rcases this with rfl | rfl <;> decide
theorem strW_data (l : List UInt8) (z : ByteArray) : (strW l ++ z).data.toList = l ++ z.data.toList := by
  simp [strW]
set_option maxRecDepth 100000 in
set_option maxHeartbeats 1000000 in
theorem runcodeGamma_any (A : Int) (z : ByteArray) (w : World) (hA0 : IntKind.u32.min ≤ A) (hA1 : A ≤ IntKind.u32.max) (hz : z.size ≤ maxLen) (hL : laidMetH Tryz.prog Rows.runcodeGammaRow.laid w) (hG : w.ShapedOpen Tryz.prog) :
    Calls Tryz.prog 6 #[.int .u32 A, .string z] w fun e w' => e = .returned (.bool true) ∧ Below w.heap.size w w' := by
  have hA0 : 0 ≤ A := hA0
  have hA1 : A ≤ 4294967295 := hA1
  obtain ⟨mx, hmx⟩ := maxLen_of hG
  have hT := tabM_laid hL
  have HAw := hid (fun X (h : Below w.heap.size w X) => awake42_any mx X (tab_below hT h) (keeps h hmx))
  obtain ⟨n, rfl⟩ : ∃ n : Nat, A = (n : Int) := ⟨A.toNat, by omega⟩
  have HCk := hid (fun X => wcheck_any 2 z X)
  by_cases hn0 : n = 0
  · subst hn0
    clear hL hG hT hmx
    go_enter Tryz.func6, Tryz.ntmps6
    go_wp2_with (go_at_call 9; refine (HAw.out _ (Below.refl _ _)).mono ?_; rintro e w2 ⟨rfl, hb2⟩; have HB2 := hid hb2; clear hb2)
    go_ret
    exact ⟨rfl, HB2.out⟩
  · have hnI : ((n : Int) == 0) = false := by rw [beq_eq_false_iff_ne]; omega
    by_cases hz60 : 60 < z.size
    · have hzI : (60 : Int) < (z.size : Int) := by omega
      clear hL hG hT hmx
      go_enter Tryz.func6, Tryz.ntmps6
      go_wp2_with (go_at_call 9; refine (HAw.out _ (Below.refl _ _)).mono ?_; rintro e w2 ⟨rfl, hb2⟩; have HB2 := hid hb2; clear hb2)
      go_ret
      exact ⟨rfl, HB2.out⟩
    · have hzI : ¬ (60 : Int) < (z.size : Int) := by omega
      by_cases hE : wordErr 2 z = 0
      · rw [hE] at HCk
        obtain ⟨hzb, _⟩ := bits_of hE
        have HGa := hid (fun X h => gamma_any n X (by omega) (by omega) h)
        have HGb := hid (fun X h => gamma_any (2 * n) X (by omega) (by omega) h)
        have HTb := hid (fun X (h : Below w.heap.size w X) => tab_below hT h)
        obtain ⟨d1, d2, d3⟩ := dgN_lt n (by omega)
        have hlu := gamW_len n (by omega)
        have hlv := gamW_len (2 * n) (by omega)
        rw [dgN_twice n (by omega) (by omega)] at hlv
        have HUn := hid (fun X => ungam_any (strW (gamW n) ++ z) X (wordErr_bits (fun c hc => by
          rw [strW_data] at hc
          rcases List.mem_append.1 hc with h | h
          · exact gamW_bits _ c h
          · exact hzb c h) (by rw [ByteArray.size_append, strW_size]; omega)))
        rw [strW_data, ugV_gam n _ (by omega) (by omega)] at HUn
        have hcat := fun X => cat_small (strW (gamW n)) z X (by rw [strW_size]; omega)
        have hsa := strW_size (gamW n)
        have hsb := strW_size (gamW (2 * n))
        rw [← hsa] at HUn hlu
        rw [← hsb] at hlv
        have m1 : ((strW (gamW n)).size : Int) % 2 = 1 := by omega
        have m2 : ((strW (gamW (2 * n))).size : Int) = ((strW (gamW n)).size : Int) + 2 := by omega
        have m3 : (2 : Int) * (n : Int) = ((2 * n : Nat) : Int) := by push_cast; rfl
        have hU : (strW (gamW n)).size ≤ 1000 := by omega
        clear hL hG hT hmx hE hzb d1 d2 d3 hlu hlv hsa hsb
        have hn32 : n ≤ 4294967295 := by omega
        have hn2 : 2 * n ≤ 8589934590 := by omega
        generalize 2 * n = n2 at *
        generalize strW (gamW n) ++ z = S at *
        generalize strW (gamW n) = U at *
        generalize strW (gamW n2) = V at *
        go_enter Tryz.func6, Tryz.ntmps6
        go_upto_region 4 with (first
          | (go_at_call 10; refine (HCk.out _).mono ?_; rintro e w1 ⟨rfl, hD⟩; have HB1 := hid (hD.below w.heap.size); clear hD)
          | (go_at_call 20; refine (HGa.out _ (HTb.out _ HB1.out)).mono ?_; rintro e w2 ⟨rfl, hb2⟩; have HB2 := hid (bel_step HB1.out hb2); clear hb2))
        go_wp2_with (first
          | (go_at_call 20; refine (HGb.out _ (HTb.out _ HB2.out)).mono ?_; rintro e w3 ⟨rfl, hb3⟩; have HB3 := hid (bel_step HB2.out hb3); clear hb3)
          | (go_at_call 21; refine (HUn.out _).mono ?_; rintro e w4 ⟨rfl, hb4⟩; have HB4 := hid (bel_step HB3.out hb4); clear hb4)
          | (go_at_call 9; refine (HAw.out _ HB4.out).mono ?_; rintro e w6 ⟨rfl, hb6⟩; have HB6 := hid (bel_step HB4.out hb6); clear hb6))
        go_ret
        exact ⟨rfl, HB6.out⟩
      · have hEn : (wordErr 2 z != 0) = true := by simp [hE]
        clear hL hG hT hmx
        generalize wordErr 2 z = E at *
        go_enter Tryz.func6, Tryz.ntmps6
        go_wp2_with (first
          | (go_at_call 10; refine (HCk.out _).mono ?_; rintro e w1 ⟨rfl, hD⟩; have HB1 := hid (hD.below w.heap.size); clear hD)
          | (go_at_call 9; refine (HAw.out _ HB1.out).mono ?_; rintro e w2 ⟨rfl, hb2⟩; have HB2 := hid (bel_step HB1.out hb2); clear hb2))
        go_ret
        exact ⟨rfl, HB2.out⟩
end Go.Proofs.YtieahckbbohfgaaGreatDoor
