/-
  The law RuncodeZeros: the walk.
  No condition.
-/
import Derived.Test.YtieahckbbohfgaaGreatDoorRows
import Derived.Test.YtieahckbbohfgaaGreatDoorAwk42
import Derived.Test.YtieahckbbohfgaaGreatDoorZerIn
import Derived.Lib.LaidTab
import Derived.LaidMore
import Derived.MakeChecks
namespace Go.Proofs.YtieahckbbohfgaaGreatDoor
open Go.RowKit
set_option linter.unusedVariables false

theorem maxLen_of {w : World} (h : w.ShapedOpen Tryz.prog) : ∃ m, w.cell? ⟨0, 0, none⟩ = some (.int .i64 m) := Tryz.laysM146.s1_3 w h
theorem tabZ_laid {W : World} (h : laidMetH Tryz.prog Rows.runcodeZerosRow.laid W) : TabAt 7 Lib.deBruijn64tab W := by
  rw [MakeChecks.laidMetH_plain _ _ _ (by kernel_rfl)] at h
  obtain ⟨ps, ⟨_, _, _, _, _, _, _, _, _, _, ⟨g, t, cs, fuel, p, q, hg, ht, hv, hd, _, _⟩, _⟩, _⟩ := h
  obtain rfl := Option.some.inj ((show Tryz.prog.globalNamed "math/bits.deBruijn64tab" = some 7 by kernel_rfl).symm.trans hg)
  obtain rfl := Option.some.inj ((show (Tryz.prog.globals[7]?).map (·.type) = some 212 by kernel_rfl).symm.trans ht)
  have hc := Lib.cells_of_tab (zs := Lib.deBruijn64tab.map Int.ofNat) Tryz.underlying212 Tryz.underlying5 (by kernel_rfl) (by kernel_rfl) hd
  intro j hj
  have hl : Lib.deBruijn64tab.length = 64 := by decide
  rw [World.var?_cell hg hv j, ← Array.getElem?_toList, hc, List.map_map, List.getElem?_map, List.getElem?_eq_getElem (by omega)]
  rw [List.getD_eq_getElem?_getD, List.getElem?_eq_getElem (by omega)]
  rfl
theorem eq_same (l : List Int) (v1 v2 : Value) (w : World) (h1 : Sl 1 w v1 l.length (ints l)) (h2 : Sl 1 w v2 l.length (ints l)) :
    Calls Tryz.prog 19 #[v1, v2] w fun e w' => e = .returned (.bool true) ∧ Below w.heap.size w w' := by
  refine (equalInts_any v1 v2 l l w h1 h2).mono ?_
  rintro e w' ⟨rfl, hd⟩
  exact ⟨ret_bool ((eqb_iff _ _).2 rfl), hd.below _⟩
theorem outZ_none {zs : List Int} (h : zs.any outZ = false) : ∀ z ∈ zs, z ≤ 40 ∨ 65536 < z := by
  intro z hz
  have := List.any_eq_false.1 h z hz
  unfold outZ at this
  simp at this
  omega
set_option maxRecDepth 100000 in
set_option maxHeartbeats 1000000 in
theorem runcodeZeros_any (s : ByteArray) (v : Value) (zs : List Int) (w : World) (hs : s.size ≤ maxLen) (hl : Sl 1 w v zs.length (ints zs)) (hz : ∀ x ∈ zs, IntKind.i64.min ≤ x ∧ x ≤ IntKind.i64.max) (hL : laidMetH Tryz.prog Rows.runcodeZerosRow.laid w) (hG : w.ShapedOpen Tryz.prog) :
    Calls Tryz.prog 5 #[.string s, v] w fun e w' => e = .returned (.bool true) ∧ Below w.heap.size w w' := by
  obtain ⟨mx, hmx⟩ := maxLen_of hG
  have hT := tabZ_laid hL
  have HAw := hid (fun X (h : Below w.heap.size w X) => awake42_any mx X (tab_below hT h) (keeps h hmx))
  have HM := hid (fun X (h : Below w.heap.size w X) => keeps h hmx)
  have HL := hid hl
  have HCf := hid (fun X h => outZs_any v zs X h)
  obtain ⟨ao, cap, rfl, -, hl2, hl3, -⟩ := hl
  clear hL hG hT hmx
  by_cases hs200 : 200 < s.size
  · have hI : (200 : Int) < (s.size : Int) := by omega
    clear hs
    go_enter Tryz.func5, Tryz.ntmps5
    go_wp2_with (go_at_call 9; refine (HAw.out _ (Below.refl _ _)).mono ?_; rintro e w2 ⟨rfl, hb2⟩; have HB2 := hid hb2; clear hb2)
    go_ret
    exact ⟨rfl, HB2.out⟩
  have hI : ¬ (200 : Int) < (s.size : Int) := by omega
  clear hs
  by_cases hz20 : 20 < zs.length
  · have hJ : (20 : Int) < (zs.length : Int) := by omega
    clear hz
    go_enter Tryz.func5, Tryz.ntmps5
    go_wp2_with (go_at_call 9; refine (HAw.out _ (Below.refl _ _)).mono ?_; rintro e w2 ⟨rfl, hb2⟩; have HB2 := hid hb2; clear hb2)
    go_ret
    exact ⟨rfl, HB2.out⟩
  have hJ : ¬ (20 : Int) < (zs.length : Int) := by omega
  cases hany : zs.any outZ
  · rw [hany] at HCf
    obtain ⟨X, G, he1, he2, hX⟩ := expZ zs (by omega) (outZ_none hany) (fun z h => (hz z h).2)
    have HE1 := hid he1
    have HE2 := hid he2
    have HR1 := hid (fun Y h => runsL_any s mx Y (by omega) h)
    have HR2 := hid (fun Y => rrunsL_any s Y (by omega))
    have HBk := hid (fun h0 v Y h => backZ s (by omega) h0 v Y h)
    have HEs := hid (eq_same (RL s))
    have HEz := hid (eq_same zs)
    have HXr := hid (fun (h0 : G = 0) Y h => runsL_any X mx Y (hX h0).2.1 h)
    have HX := hid hX
    clear he1 he2 hX hz hany
    generalize RL s = R at *
    by_cases hE : wordErr 2 s = 0
    · have HBq := hid (HBk.out hE)
      rw [hE] at HR1 HR2
      clear HBk hE
      by_cases hG0 : G = 0
      · have HXq := hid (HXr.out hG0)
        have hX3 := HX.out hG0
        rw [hX3.1, hX3.2.2] at HXq
        subst hG0
        clear HXr HX hX3
        go_enter Tryz.func5, Tryz.ntmps5
        go_upto_region 9 with (first
          | (go_at_call 13; refine (HCf.out _ HL.out).mono ?_; rintro e w1 ⟨rfl, hD⟩; have HB1 := hid (hD.below w.heap.size); clear hD)
          | (go_at_call 15; refine (HR1.out _ (HM.out _ HB1.out)).mono ?_; rintro e w2 ⟨u2, rfl, hs2, hb2⟩; have HS2 := hid hs2; have HB2 := hid (bel_step HB1.out hb2); clear hb2 hs2)
          | (go_at_call 16; refine (HR2.out _).mono ?_; rintro e w3 ⟨u3, rfl, hs3, hb3⟩; have HS3 := hid hs3; have HS2 := hid (HS2.out.below hb3); have HB3 := hid (bel_step HB2.out hb3); clear hb3 hs3)
          | (go_at_call 17; refine (HE1.out _ _ (HL.out.below HB3.out)).mono ?_; rintro e w4 ⟨rfl, hb4⟩; have HS2 := hid (HS2.out.below hb4); have HS3 := hid (HS3.out.below hb4); have HB4 := hid (bel_step HB3.out hb4); clear hb4)
          | (go_at_call 18; refine (HE2.out _ _ (HL.out.below HB4.out)).mono ?_; rintro e w5 ⟨rfl, hb5⟩; have HS2 := hid (HS2.out.below hb5); have HS3 := hid (HS3.out.below hb5); have HB5 := hid (bel_step HB4.out hb5); clear hb5)
          | (go_at_call 19; refine (HEs.out _ _ _ HS2.out HS3.out).mono ?_; rintro e w6 ⟨rfl, hb6⟩; have HS2 := hid (HS2.out.below hb6); have HB6 := hid (bel_step HB5.out hb6); clear hb6))
        go_upto_region 13 with (go_at_call 17; refine (HBq.out _ _ HS2.out).mono ?_; rintro e w7 ⟨rfl, hb7⟩; have HB7 := hid (bel_step HB6.out hb7); clear hb7)
        go_upto_region 17 with (first
          | (go_at_call 15; refine (HXq.out _ (HM.out _ HB7.out)).mono ?_; rintro e w8 ⟨u8, rfl, hs8, hb8⟩; have HS8 := hid hs8; have HB8 := hid (bel_step HB7.out hb8); clear hb8 hs8)
          | (go_at_call 19; refine (HEz.out _ _ _ HS8.out (HL.out.below HB8.out)).mono ?_; rintro e w9 ⟨rfl, hb9⟩; have HB9 := hid (bel_step HB8.out hb9); clear hb9))
        go_wp2_with (go_at_call 9; refine (HAw.out _ HB9.out).mono ?_; rintro e wz ⟨rfl, hbz⟩; have HBz := hid (bel_step HB9.out hbz); clear hbz)
        go_ret
        exact ⟨rfl, HBz.out⟩
      · have hGn : (G == 0) = false := by rw [beq_eq_false_iff_ne]; exact hG0
        clear HXr HX
        go_enter Tryz.func5, Tryz.ntmps5
        go_upto_region 9 with (first
          | (go_at_call 13; refine (HCf.out _ HL.out).mono ?_; rintro e w1 ⟨rfl, hD⟩; have HB1 := hid (hD.below w.heap.size); clear hD)
          | (go_at_call 15; refine (HR1.out _ (HM.out _ HB1.out)).mono ?_; rintro e w2 ⟨u2, rfl, hs2, hb2⟩; have HS2 := hid hs2; have HB2 := hid (bel_step HB1.out hb2); clear hb2 hs2)
          | (go_at_call 16; refine (HR2.out _).mono ?_; rintro e w3 ⟨u3, rfl, hs3, hb3⟩; have HS3 := hid hs3; have HS2 := hid (HS2.out.below hb3); have HB3 := hid (bel_step HB2.out hb3); clear hb3 hs3)
          | (go_at_call 17; refine (HE1.out _ _ (HL.out.below HB3.out)).mono ?_; rintro e w4 ⟨rfl, hb4⟩; have HS2 := hid (HS2.out.below hb4); have HS3 := hid (HS3.out.below hb4); have HB4 := hid (bel_step HB3.out hb4); clear hb4)
          | (go_at_call 18; refine (HE2.out _ _ (HL.out.below HB4.out)).mono ?_; rintro e w5 ⟨rfl, hb5⟩; have HS2 := hid (HS2.out.below hb5); have HS3 := hid (HS3.out.below hb5); have HB5 := hid (bel_step HB4.out hb5); clear hb5)
          | (go_at_call 19; refine (HEs.out _ _ _ HS2.out HS3.out).mono ?_; rintro e w6 ⟨rfl, hb6⟩; have HS2 := hid (HS2.out.below hb6); have HB6 := hid (bel_step HB5.out hb6); clear hb6))
        go_upto_region 13 with (go_at_call 17; refine (HBq.out _ _ HS2.out).mono ?_; rintro e w7 ⟨rfl, hb7⟩; have HB7 := hid (bel_step HB6.out hb7); clear hb7)
        go_wp2_with (go_at_call 9; refine (HAw.out _ HB7.out).mono ?_; rintro e wz ⟨rfl, hbz⟩; have HBz := hid (bel_step HB7.out hbz); clear hbz)
        go_ret
        exact ⟨rfl, HBz.out⟩
    · have hEn : (wordErr 2 s == 0) = false := by rw [beq_eq_false_iff_ne]; exact hE
      clear HBk
      generalize wordErr 2 s = E at *
      by_cases hG0 : G = 0
      · have HXq := hid (HXr.out hG0)
        have hX3 := HX.out hG0
        rw [hX3.1, hX3.2.2] at HXq
        subst hG0
        clear HXr HX hX3
        go_enter Tryz.func5, Tryz.ntmps5
        go_upto_region 9 with (first
          | (go_at_call 13; refine (HCf.out _ HL.out).mono ?_; rintro e w1 ⟨rfl, hD⟩; have HB1 := hid (hD.below w.heap.size); clear hD)
          | (go_at_call 15; refine (HR1.out _ (HM.out _ HB1.out)).mono ?_; rintro e w2 ⟨u2, rfl, hs2, hb2⟩; have HS2 := hid hs2; have HB2 := hid (bel_step HB1.out hb2); clear hb2 hs2)
          | (go_at_call 16; refine (HR2.out _).mono ?_; rintro e w3 ⟨u3, rfl, hs3, hb3⟩; have HS3 := hid hs3; have HS2 := hid (HS2.out.below hb3); have HB3 := hid (bel_step HB2.out hb3); clear hb3 hs3)
          | (go_at_call 17; refine (HE1.out _ _ (HL.out.below HB3.out)).mono ?_; rintro e w4 ⟨rfl, hb4⟩; have HS2 := hid (HS2.out.below hb4); have HS3 := hid (HS3.out.below hb4); have HB4 := hid (bel_step HB3.out hb4); clear hb4)
          | (go_at_call 18; refine (HE2.out _ _ (HL.out.below HB4.out)).mono ?_; rintro e w5 ⟨rfl, hb5⟩; have HS2 := hid (HS2.out.below hb5); have HS3 := hid (HS3.out.below hb5); have HB5 := hid (bel_step HB4.out hb5); clear hb5)
          | (go_at_call 19; refine (HEs.out _ _ _ HS2.out HS3.out).mono ?_; rintro e w6 ⟨rfl, hb6⟩; have HS2 := hid (HS2.out.below hb6); have HB6 := hid (bel_step HB5.out hb6); clear hb6))
        go_upto_region 17 with (first
          | (go_at_call 15; refine (HXq.out _ (HM.out _ HB6.out)).mono ?_; rintro e w8 ⟨u8, rfl, hs8, hb8⟩; have HS8 := hid hs8; have HB8 := hid (bel_step HB6.out hb8); clear hb8 hs8)
          | (go_at_call 19; refine (HEz.out _ _ _ HS8.out (HL.out.below HB8.out)).mono ?_; rintro e w9 ⟨rfl, hb9⟩; have HB9 := hid (bel_step HB8.out hb9); clear hb9))
        go_wp2_with (go_at_call 9; refine (HAw.out _ HB9.out).mono ?_; rintro e wz ⟨rfl, hbz⟩; have HBz := hid (bel_step HB9.out hbz); clear hbz)
        go_ret
        exact ⟨rfl, HBz.out⟩
      · have hGn : (G == 0) = false := by rw [beq_eq_false_iff_ne]; exact hG0
        clear HXr HX
        go_enter Tryz.func5, Tryz.ntmps5
        go_upto_region 9 with (first
          | (go_at_call 13; refine (HCf.out _ HL.out).mono ?_; rintro e w1 ⟨rfl, hD⟩; have HB1 := hid (hD.below w.heap.size); clear hD)
          | (go_at_call 15; refine (HR1.out _ (HM.out _ HB1.out)).mono ?_; rintro e w2 ⟨u2, rfl, hs2, hb2⟩; have HS2 := hid hs2; have HB2 := hid (bel_step HB1.out hb2); clear hb2 hs2)
          | (go_at_call 16; refine (HR2.out _).mono ?_; rintro e w3 ⟨u3, rfl, hs3, hb3⟩; have HS3 := hid hs3; have HS2 := hid (HS2.out.below hb3); have HB3 := hid (bel_step HB2.out hb3); clear hb3 hs3)
          | (go_at_call 17; refine (HE1.out _ _ (HL.out.below HB3.out)).mono ?_; rintro e w4 ⟨rfl, hb4⟩; have HS2 := hid (HS2.out.below hb4); have HS3 := hid (HS3.out.below hb4); have HB4 := hid (bel_step HB3.out hb4); clear hb4)
          | (go_at_call 18; refine (HE2.out _ _ (HL.out.below HB4.out)).mono ?_; rintro e w5 ⟨rfl, hb5⟩; have HS2 := hid (HS2.out.below hb5); have HS3 := hid (HS3.out.below hb5); have HB5 := hid (bel_step HB4.out hb5); clear hb5)
          | (go_at_call 19; refine (HEs.out _ _ _ HS2.out HS3.out).mono ?_; rintro e w6 ⟨rfl, hb6⟩; have HS2 := hid (HS2.out.below hb6); have HB6 := hid (bel_step HB5.out hb6); clear hb6))
        go_wp2_with (go_at_call 9; refine (HAw.out _ HB6.out).mono ?_; rintro e wz ⟨rfl, hbz⟩; have HBz := hid (bel_step HB6.out hbz); clear hbz)
        go_ret
        exact ⟨rfl, HBz.out⟩
  · rw [hany] at HCf
    clear hz hany
    go_enter Tryz.func5, Tryz.ntmps5
    go_wp2_with (first
      | (go_at_call 13; refine (HCf.out _ HL.out).mono ?_; rintro e w1 ⟨rfl, hD⟩; have HB1 := hid (hD.below w.heap.size); clear hD)
      | (go_at_call 9; refine (HAw.out _ HB1.out).mono ?_; rintro e w2 ⟨rfl, hb2⟩; have HB2 := hid (bel_step HB1.out hb2); clear hb2))
    go_ret
    exact ⟨rfl, HB2.out⟩
end Go.Proofs.YtieahckbbohfgaaGreatDoor
