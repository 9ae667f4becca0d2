/-
  The law RuncodeNumbers: the walk.
  No condition.
-/
import Derived.Test.YtieahckbbohfgaaGreatDoorRows
import Derived.Test.YtieahckbbohfgaaGreatDoorAwk42
import Derived.Test.YtieahckbbohfgaaGreatDoorNumA
import Derived.Lib.LaidTab
import Derived.LaidMore
import Derived.MakeChecks
namespace Go.Proofs.YtieahckbbohfgaaGreatDoor
open Go.RowKit
set_option linter.unusedVariables false

theorem tdiv_pos {a b : Int} (ha : 0 ≤ a) (hb : 0 < b) : 0 ≤ a.tdiv b ∧ a.tdiv b ≤ a := by
  rw [Int.tdiv_eq_ediv_of_nonneg ha]
  exact ⟨Int.ediv_nonneg ha (by omega), Int.ediv_le_self b ha⟩
theorem maxLen_of {w : World} (h : w.ShapedOpen Tryz.prog) : ∃ m, w.cell? ⟨0, 0, none⟩ = some (.int .i64 m) := Tryz.laysM146.s1_3 w h
theorem tabN_laid {W : World} (h : laidMetH Tryz.prog Rows.runcodeNumbersRow.laid W) : TabAt 7 Lib.deBruijn64tab W := by
  rw [MakeChecks.laidMetH_plain _ _ _ (by kernel_rfl)] at h
  obtain ⟨ps, ⟨_, _, _, _, _, _, _, _, _, _, ⟨g, t, cs, fuel, p, q, hg, ht, hv, hd, _, _⟩, _⟩, _⟩ := h
  obtain rfl := Option.some.inj ((show Tryz.prog.globalNamed "math/bits.deBruijn64tab" = some 7 by kernel_rfl).symm.trans hg)
  obtain rfl := Option.some.inj ((show (Tryz.prog.globals[7]?).map (·.type) = some 212 by kernel_rfl).symm.trans ht)
  have hc := Lib.cells_of_tab (zs := Lib.deBruijn64tab.map Int.ofNat) Tryz.underlying212 Tryz.underlying5 (by kernel_rfl) (by kernel_rfl) hd
  intro j hj
  have hl : Lib.deBruijn64tab.length = 64 := by decide
  rw [World.var?_cell hg hv j, ← Array.getElem?_toList, hc, List.map_map, List.getElem?_map, List.getElem?_eq_getElem (by omega)]
  rw [List.getD_eq_getElem?_getD, List.getElem?_eq_getElem (by omega)]
  rfl
set_option maxRecDepth 100000 in
set_option maxHeartbeats 1000000 in
theorem runcodeNumbers_any (m n : Int) (s : ByteArray) (w : World) (hm0 : IntKind.i64.min ≤ m) (hm1 : m ≤ IntKind.i64.max) (hn0 : IntKind.i64.min ≤ n) (hn1 : n ≤ IntKind.i64.max) (hs : s.size ≤ maxLen) (hL : laidMetH Tryz.prog Rows.runcodeNumbersRow.laid w) (hG : w.ShapedOpen Tryz.prog) :
    Calls Tryz.prog 7 #[.int .i64 m, .int .i64 n, .string s] w fun e w' => e = .returned (.bool true) ∧ Below w.heap.size w w' := by
  have hn1 : n ≤ 9223372036854775807 := hn1
  have hn0 : -9223372036854775808 ≤ n := hn0
  obtain ⟨mx, hmx⟩ := maxLen_of hG
  have hT := tabN_laid hL
  have HAw := hid (fun X (h : Below w.heap.size w X) => awake42_any mx X (tab_below hT h) (keeps h hmx))
  have HTb := hid (fun X (h : Below w.heap.size w X) => tab_below hT h)
  clear hm0 hm1 hL hG hT hmx hs
  by_cases hs200 : 200 < s.size
  · have hI : (200 : Int) < (s.size : Int) := by omega
    clear hn0 hn1
    go_enter Tryz.func7, Tryz.ntmps7
    go_wp2_with (go_at_call 9; refine (HAw.out _ (Below.refl _ _)).mono ?_; rintro e w2 ⟨rfl, hb2⟩; have HB2 := hid hb2; clear hb2)
    go_ret
    exact ⟨rfl, HB2.out⟩
  have hI : ¬ (200 : Int) < (s.size : Int) := by omega
  by_cases hmm : 40 < m ∧ m ≤ 65536
  · obtain ⟨g1, g2⟩ := hmm
    clear hn0 hn1
    go_enter Tryz.func7, Tryz.ntmps7
    go_wp2_with (go_at_call 9; refine (HAw.out _ (Below.refl _ _)).mono ?_; rintro e w2 ⟨rfl, hb2⟩; have HB2 := hid hb2; clear hb2)
    go_ret
    exact ⟨rfl, HB2.out⟩
  have HGo := hid (fun X h => golombR_any m n X hn1 h)
  have HRg := hid (fun X => rgolombR_any m n X hn1)
  have HUn := hid (fun X => ungolR_any m s X (by omega))
  have HRu := hid (fun X => rungolR_any m s X (by omega))
  have HGa := hid (fun X h => gammaR_any n X hn1 h)
  have HRa := hid (fun X => rgammaR_any n X hn1)
  have HUg := hid (fun X => ungamR_any s X (by omega))
  have HRn := hid (fun X => rungamR_any s X (by omega))
  obtain ⟨a1, e1, q1⟩ := golR_form m n
  obtain ⟨a2, b2, e2, q2⟩ := ungR_form m s
  obtain ⟨a3, e3, q3⟩ := gamR_form n
  obtain ⟨a4, b4, e4, q4⟩ := ugR_form s
  rw [q1] at HGo HRg
  rw [q2] at HUn HRu
  rw [q3] at HGa HRa
  rw [q4] at HUg HRn
  clear q1 q2 q3 q4
  have hcase : m ≤ 0 ∨ (0 < m ∧ m ≤ 40) ∨ 65536 < m := by omega
  clear hmm
  rcases hcase with g | ⟨g0, g⟩ | g
  · have j1 : ¬ 40 < m := by omega
    have j2 : ¬ 0 < m := by omega
    go_enter Tryz.func7, Tryz.ntmps7
    go_upto_region 3 with fail
    go_upto_region 5 with (first
      | (go_at_call 8; refine (HGo.out _ (HTb.out _ (Below.refl _ _))).mono ?_; rintro e w1 ⟨rfl, hb1⟩; have HB1 := hid hb1; clear hb1)
      | (go_at_call 22; refine (HRg.out _).mono ?_; rintro e w2 ⟨rfl, hb2⟩; have HB2 := hid (bel_step HB1.out hb2); clear hb2))
    go_upto_region 7 with (first
      | (go_at_call 11; refine (HUn.out _).mono ?_; rintro e w3 ⟨rfl, hb3⟩; have HB3 := hid (bel_step HB2.out hb3); clear hb3)
      | (go_at_call 23; refine (HRu.out _).mono ?_; rintro e w4 ⟨rfl, hb4⟩; have HB4 := hid (bel_step HB3.out hb4); clear hb4))
    go_upto_region 9 with (first
      | (go_at_call 20; refine (HGa.out _ (HTb.out _ HB4.out)).mono ?_; rintro e w5 ⟨rfl, hb5⟩; have HB5 := hid (bel_step HB4.out hb5); clear hb5)
      | (go_at_call 24; refine (HRa.out _).mono ?_; rintro e w6 ⟨rfl, hb6⟩; have HB6 := hid (bel_step HB5.out hb6); clear hb6))
    go_upto_region 11 with (first
      | (go_at_call 21; refine (HUg.out _).mono ?_; rintro e w7 ⟨rfl, hb7⟩; have HB7 := hid (bel_step HB6.out hb7); clear hb7)
      | (go_at_call 25; refine (HRn.out _).mono ?_; rintro e w8 ⟨rfl, hb8⟩; have HB8 := hid (bel_step HB7.out hb8); clear hb8))
    go_wp2_with (go_at_call 9; refine (HAw.out _ HB8.out).mono ?_; rintro e w9 ⟨rfl, hb9⟩; have HB9 := hid (bel_step HB8.out hb9); clear hb9)
    go_ret
    exact ⟨rfl, HB9.out⟩
  · have j1 : ¬ 40 < m := by omega
    by_cases g2 : 0 < n
    · obtain ⟨hq0, hqn⟩ := tdiv_pos (a := n) (b := m) (by omega) (by omega)
      obtain ⟨q, hq⟩ : ∃ q, n.tdiv m = q := ⟨_, rfl⟩
      rw [hq] at hq0 hqn
      have hM0 : (m == 0) = false := by rw [beq_eq_false_iff_ne]; omega
      by_cases g3 : 300 < q
      · have g3I : 300 < q := by omega
        by_cases g4 : q < 65536
        · have g4I : q < 65536 := by omega
          go_enter Tryz.func7, Tryz.ntmps7
          go_wp2_with (go_at_call 9; refine (HAw.out _ (Below.refl _ _)).mono ?_; rintro e w2 ⟨rfl, hb2⟩; have HB2 := hid hb2; clear hb2)
          go_ret
          exact ⟨rfl, HB2.out⟩
        · have g4I : ¬ q < 65536 := by omega
          go_enter Tryz.func7, Tryz.ntmps7
          go_upto_region 3 with fail
          go_upto_region 5 with (first
            | (go_at_call 8; refine (HGo.out _ (HTb.out _ (Below.refl _ _))).mono ?_; rintro e w1 ⟨rfl, hb1⟩; have HB1 := hid hb1; clear hb1)
            | (go_at_call 22; refine (HRg.out _).mono ?_; rintro e w2 ⟨rfl, hb2⟩; have HB2 := hid (bel_step HB1.out hb2); clear hb2))
          go_upto_region 7 with (first
            | (go_at_call 11; refine (HUn.out _).mono ?_; rintro e w3 ⟨rfl, hb3⟩; have HB3 := hid (bel_step HB2.out hb3); clear hb3)
            | (go_at_call 23; refine (HRu.out _).mono ?_; rintro e w4 ⟨rfl, hb4⟩; have HB4 := hid (bel_step HB3.out hb4); clear hb4))
          go_upto_region 9 with (first
            | (go_at_call 20; refine (HGa.out _ (HTb.out _ HB4.out)).mono ?_; rintro e w5 ⟨rfl, hb5⟩; have HB5 := hid (bel_step HB4.out hb5); clear hb5)
            | (go_at_call 24; refine (HRa.out _).mono ?_; rintro e w6 ⟨rfl, hb6⟩; have HB6 := hid (bel_step HB5.out hb6); clear hb6))
          go_upto_region 11 with (first
            | (go_at_call 21; refine (HUg.out _).mono ?_; rintro e w7 ⟨rfl, hb7⟩; have HB7 := hid (bel_step HB6.out hb7); clear hb7)
            | (go_at_call 25; refine (HRn.out _).mono ?_; rintro e w8 ⟨rfl, hb8⟩; have HB8 := hid (bel_step HB7.out hb8); clear hb8))
          go_wp2_with (go_at_call 9; refine (HAw.out _ HB8.out).mono ?_; rintro e w9 ⟨rfl, hb9⟩; have HB9 := hid (bel_step HB8.out hb9); clear hb9)
          go_ret
          exact ⟨rfl, HB9.out⟩
      · have g3I : ¬ 300 < q := by omega
        go_enter Tryz.func7, Tryz.ntmps7
        go_upto_region 3 with fail
        go_upto_region 5 with (first
          | (go_at_call 8; refine (HGo.out _ (HTb.out _ (Below.refl _ _))).mono ?_; rintro e w1 ⟨rfl, hb1⟩; have HB1 := hid hb1; clear hb1)
          | (go_at_call 22; refine (HRg.out _).mono ?_; rintro e w2 ⟨rfl, hb2⟩; have HB2 := hid (bel_step HB1.out hb2); clear hb2))
        go_upto_region 7 with (first
          | (go_at_call 11; refine (HUn.out _).mono ?_; rintro e w3 ⟨rfl, hb3⟩; have HB3 := hid (bel_step HB2.out hb3); clear hb3)
          | (go_at_call 23; refine (HRu.out _).mono ?_; rintro e w4 ⟨rfl, hb4⟩; have HB4 := hid (bel_step HB3.out hb4); clear hb4))
        go_upto_region 9 with (first
          | (go_at_call 20; refine (HGa.out _ (HTb.out _ HB4.out)).mono ?_; rintro e w5 ⟨rfl, hb5⟩; have HB5 := hid (bel_step HB4.out hb5); clear hb5)
          | (go_at_call 24; refine (HRa.out _).mono ?_; rintro e w6 ⟨rfl, hb6⟩; have HB6 := hid (bel_step HB5.out hb6); clear hb6))
        go_upto_region 11 with (first
          | (go_at_call 21; refine (HUg.out _).mono ?_; rintro e w7 ⟨rfl, hb7⟩; have HB7 := hid (bel_step HB6.out hb7); clear hb7)
          | (go_at_call 25; refine (HRn.out _).mono ?_; rintro e w8 ⟨rfl, hb8⟩; have HB8 := hid (bel_step HB7.out hb8); clear hb8))
        go_wp2_with (go_at_call 9; refine (HAw.out _ HB8.out).mono ?_; rintro e w9 ⟨rfl, hb9⟩; have HB9 := hid (bel_step HB8.out hb9); clear hb9)
        go_ret
        exact ⟨rfl, HB9.out⟩
    · have j3 : ¬ 0 < n := g2
      go_enter Tryz.func7, Tryz.ntmps7
      go_upto_region 3 with fail
      go_upto_region 5 with (first
        | (go_at_call 8; refine (HGo.out _ (HTb.out _ (Below.refl _ _))).mono ?_; rintro e w1 ⟨rfl, hb1⟩; have HB1 := hid hb1; clear hb1)
        | (go_at_call 22; refine (HRg.out _).mono ?_; rintro e w2 ⟨rfl, hb2⟩; have HB2 := hid (bel_step HB1.out hb2); clear hb2))
      go_upto_region 7 with (first
        | (go_at_call 11; refine (HUn.out _).mono ?_; rintro e w3 ⟨rfl, hb3⟩; have HB3 := hid (bel_step HB2.out hb3); clear hb3)
        | (go_at_call 23; refine (HRu.out _).mono ?_; rintro e w4 ⟨rfl, hb4⟩; have HB4 := hid (bel_step HB3.out hb4); clear hb4))
      go_upto_region 9 with (first
        | (go_at_call 20; refine (HGa.out _ (HTb.out _ HB4.out)).mono ?_; rintro e w5 ⟨rfl, hb5⟩; have HB5 := hid (bel_step HB4.out hb5); clear hb5)
        | (go_at_call 24; refine (HRa.out _).mono ?_; rintro e w6 ⟨rfl, hb6⟩; have HB6 := hid (bel_step HB5.out hb6); clear hb6))
      go_upto_region 11 with (first
        | (go_at_call 21; refine (HUg.out _).mono ?_; rintro e w7 ⟨rfl, hb7⟩; have HB7 := hid (bel_step HB6.out hb7); clear hb7)
        | (go_at_call 25; refine (HRn.out _).mono ?_; rintro e w8 ⟨rfl, hb8⟩; have HB8 := hid (bel_step HB7.out hb8); clear hb8))
      go_wp2_with (go_at_call 9; refine (HAw.out _ HB8.out).mono ?_; rintro e w9 ⟨rfl, hb9⟩; have HB9 := hid (bel_step HB8.out hb9); clear hb9)
      go_ret
      exact ⟨rfl, HB9.out⟩
  · have j1 : 40 < m := by omega
    have j4 : ¬ m ≤ 65536 := by omega
    have j5 : 0 < m := by omega
    by_cases g2 : 0 < n
    · obtain ⟨hq0, hqn⟩ := tdiv_pos (a := n) (b := m) (by omega) (by omega)
      obtain ⟨q, hq⟩ : ∃ q, n.tdiv m = q := ⟨_, rfl⟩
      rw [hq] at hq0 hqn
      have hM0 : (m == 0) = false := by rw [beq_eq_false_iff_ne]; omega
      by_cases g3 : 300 < q
      · have g3I : 300 < q := by omega
        by_cases g4 : q < 65536
        · have g4I : q < 65536 := by omega
          go_enter Tryz.func7, Tryz.ntmps7
          go_wp2_with (go_at_call 9; refine (HAw.out _ (Below.refl _ _)).mono ?_; rintro e w2 ⟨rfl, hb2⟩; have HB2 := hid hb2; clear hb2)
          go_ret
          exact ⟨rfl, HB2.out⟩
        · have g4I : ¬ q < 65536 := by omega
          go_enter Tryz.func7, Tryz.ntmps7
          go_upto_region 3 with fail
          go_upto_region 5 with (first
            | (go_at_call 8; refine (HGo.out _ (HTb.out _ (Below.refl _ _))).mono ?_; rintro e w1 ⟨rfl, hb1⟩; have HB1 := hid hb1; clear hb1)
            | (go_at_call 22; refine (HRg.out _).mono ?_; rintro e w2 ⟨rfl, hb2⟩; have HB2 := hid (bel_step HB1.out hb2); clear hb2))
          go_upto_region 7 with (first
            | (go_at_call 11; refine (HUn.out _).mono ?_; rintro e w3 ⟨rfl, hb3⟩; have HB3 := hid (bel_step HB2.out hb3); clear hb3)
            | (go_at_call 23; refine (HRu.out _).mono ?_; rintro e w4 ⟨rfl, hb4⟩; have HB4 := hid (bel_step HB3.out hb4); clear hb4))
          go_upto_region 9 with (first
            | (go_at_call 20; refine (HGa.out _ (HTb.out _ HB4.out)).mono ?_; rintro e w5 ⟨rfl, hb5⟩; have HB5 := hid (bel_step HB4.out hb5); clear hb5)
            | (go_at_call 24; refine (HRa.out _).mono ?_; rintro e w6 ⟨rfl, hb6⟩; have HB6 := hid (bel_step HB5.out hb6); clear hb6))
          go_upto_region 11 with (first
            | (go_at_call 21; refine (HUg.out _).mono ?_; rintro e w7 ⟨rfl, hb7⟩; have HB7 := hid (bel_step HB6.out hb7); clear hb7)
            | (go_at_call 25; refine (HRn.out _).mono ?_; rintro e w8 ⟨rfl, hb8⟩; have HB8 := hid (bel_step HB7.out hb8); clear hb8))
          go_wp2_with (go_at_call 9; refine (HAw.out _ HB8.out).mono ?_; rintro e w9 ⟨rfl, hb9⟩; have HB9 := hid (bel_step HB8.out hb9); clear hb9)
          go_ret
          exact ⟨rfl, HB9.out⟩
      · have g3I : ¬ 300 < q := by omega
        go_enter Tryz.func7, Tryz.ntmps7
        go_upto_region 3 with fail
        go_upto_region 5 with (first
          | (go_at_call 8; refine (HGo.out _ (HTb.out _ (Below.refl _ _))).mono ?_; rintro e w1 ⟨rfl, hb1⟩; have HB1 := hid hb1; clear hb1)
          | (go_at_call 22; refine (HRg.out _).mono ?_; rintro e w2 ⟨rfl, hb2⟩; have HB2 := hid (bel_step HB1.out hb2); clear hb2))
        go_upto_region 7 with (first
          | (go_at_call 11; refine (HUn.out _).mono ?_; rintro e w3 ⟨rfl, hb3⟩; have HB3 := hid (bel_step HB2.out hb3); clear hb3)
          | (go_at_call 23; refine (HRu.out _).mono ?_; rintro e w4 ⟨rfl, hb4⟩; have HB4 := hid (bel_step HB3.out hb4); clear hb4))
        go_upto_region 9 with (first
          | (go_at_call 20; refine (HGa.out _ (HTb.out _ HB4.out)).mono ?_; rintro e w5 ⟨rfl, hb5⟩; have HB5 := hid (bel_step HB4.out hb5); clear hb5)
          | (go_at_call 24; refine (HRa.out _).mono ?_; rintro e w6 ⟨rfl, hb6⟩; have HB6 := hid (bel_step HB5.out hb6); clear hb6))
        go_upto_region 11 with (first
          | (go_at_call 21; refine (HUg.out _).mono ?_; rintro e w7 ⟨rfl, hb7⟩; have HB7 := hid (bel_step HB6.out hb7); clear hb7)
          | (go_at_call 25; refine (HRn.out _).mono ?_; rintro e w8 ⟨rfl, hb8⟩; have HB8 := hid (bel_step HB7.out hb8); clear hb8))
        go_wp2_with (go_at_call 9; refine (HAw.out _ HB8.out).mono ?_; rintro e w9 ⟨rfl, hb9⟩; have HB9 := hid (bel_step HB8.out hb9); clear hb9)
        go_ret
        exact ⟨rfl, HB9.out⟩
    · have j3 : ¬ 0 < n := g2
      go_enter Tryz.func7, Tryz.ntmps7
      go_upto_region 3 with fail
      go_upto_region 5 with (first
        | (go_at_call 8; refine (HGo.out _ (HTb.out _ (Below.refl _ _))).mono ?_; rintro e w1 ⟨rfl, hb1⟩; have HB1 := hid hb1; clear hb1)
        | (go_at_call 22; refine (HRg.out _).mono ?_; rintro e w2 ⟨rfl, hb2⟩; have HB2 := hid (bel_step HB1.out hb2); clear hb2))
      go_upto_region 7 with (first
        | (go_at_call 11; refine (HUn.out _).mono ?_; rintro e w3 ⟨rfl, hb3⟩; have HB3 := hid (bel_step HB2.out hb3); clear hb3)
        | (go_at_call 23; refine (HRu.out _).mono ?_; rintro e w4 ⟨rfl, hb4⟩; have HB4 := hid (bel_step HB3.out hb4); clear hb4))
      go_upto_region 9 with (first
        | (go_at_call 20; refine (HGa.out _ (HTb.out _ HB4.out)).mono ?_; rintro e w5 ⟨rfl, hb5⟩; have HB5 := hid (bel_step HB4.out hb5); clear hb5)
        | (go_at_call 24; refine (HRa.out _).mono ?_; rintro e w6 ⟨rfl, hb6⟩; have HB6 := hid (bel_step HB5.out hb6); clear hb6))
      go_upto_region 11 with (first
        | (go_at_call 21; refine (HUg.out _).mono ?_; rintro e w7 ⟨rfl, hb7⟩; have HB7 := hid (bel_step HB6.out hb7); clear hb7)
        | (go_at_call 25; refine (HRn.out _).mono ?_; rintro e w8 ⟨rfl, hb8⟩; have HB8 := hid (bel_step HB7.out hb8); clear hb8))
      go_wp2_with (go_at_call 9; refine (HAw.out _ HB8.out).mono ?_; rintro e w9 ⟨rfl, hb9⟩; have HB9 := hid (bel_step HB8.out hb9); clear hb9)
      go_ret
      exact ⟨rfl, HB9.out⟩
end Go.Proofs.YtieahckbbohfgaaGreatDoor
