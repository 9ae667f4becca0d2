/-
  groovelaw53.ProgramAgrees: the encoder's program and the reduced one agree with the encoder; at ones alone they say nothing new.
  No condition beyond the rows lying in a slice.
-/
import Derived.Test.YtdfkcfmbiofggaaDoorEncSide
import Derived.Test.YtdfkcfmbiofggaaDoorAwake53
import Derived.Test.YtdfkcfmbiofggaaDoorPrReduce
import Derived.Test.YtdfkcfmbiofggaaDoorPrSame
import Derived.Test.YtdfkcfmbiofggaaDoorPrGo
import Derived.Test.YtdfkcfmbiofggaaDoorShelfW
import Derived.Deep.QuietTactic
namespace Go.Proofs.YtdfkcfmbiofggaaDoor
open Go.RowKit Go.Deep
set_option linter.unusedVariables false

theorem box3A {w w0 : World} {a b c : Value} {T : TypeId} (h : w.alloc (.cells #[a, b, c] T) = w0) : Below w.heap.size w w0 ∧ w0.cell? ⟨w.heap.size, 0, none⟩ = some a ∧ w0.cell? ⟨w.heap.size, 1, none⟩ = some b ∧ w0.cell? ⟨w.heap.size, 2, none⟩ = some c := by
  subst h
  exact ⟨bel_alloc _ _, by simp, by simp, by simp⟩
set_option maxRecDepth 100000 in
set_option maxHeartbeats 8000000 in
theorem programAgrees_any (q bl inp : Int) (v : Value) (rows : List (List Cl)) (A : Int) (w : World) (hM : MC w v rows) (hA0 : IntKind.u32.min ≤ A) (hA1 : A ≤ IntKind.u32.max) :
    Calls Tryd.prog 4 #[.agg #[.int .i64 q, .int .i64 bl, .int .i64 inp, v], .int .u32 A] w fun e w' => e = .returned (.bool true) ∧ Below w.heap.size w w' := by
  clear hA0 hA1
  have HM := hid hM
  have HGr := hid (fun X h => egreat_any q bl inp v rows X h)
  have HCk := hid (fun X h => echk_any q bl inp v rows X h)
  have HAw := hid awake_any
  obtain ⟨ao, cap, rfl, hc1, hc2⟩ := hM.slice
  clear hM
  go_enter Tryd.func4, Tryd.ntmps4
  go_upto_region 1 with fail
  obtain ⟨w0, hw0⟩ : ∃ w0, w.alloc (.cells #[.int .i64 q, .int .i64 bl, .int .i64 inp, .slice ao rows.length cap] 24) = w0 := ⟨_, rfl⟩
  obtain ⟨hb0, c0, c1, c2, c3⟩ := boxedE hw0
  rw [hw0]
  have HB0 := hid hb0
  clear hw0 hb0
  cases hg : gEnc rows
  · rw [hg] at HGr
    have HG := hid hg
    clear hg
    go_upto_region 3 with (go_at_call 5; refine (HGr.out _ (HM.out.below HB0.out)).mono ?_; rintro e w1 ⟨rfl, hb1⟩; have c0 := keeps hb1 c0; have c1 := keeps hb1 c1; have c2 := keeps hb1 c2; have c3 := keeps hb1 c3; have HB1 := hid (bel_step HB0.out hb1); clear hb1)
    by_cases hE : eErr q bl inp rows = 0
    · have hEv := eErr_zero hE
      obtain ⟨Q, rfl⟩ : ∃ Q : Nat, q = Q := ⟨q.toNat, by have := hEv.q1; omega⟩
      obtain ⟨L, rfl⟩ : ∃ L : Nat, bl = L := ⟨bl.toNat, by have := hEv.b1; omega⟩
      obtain ⟨I, rfl⟩ : ∃ I : Nat, inp = I := ⟨inp.toNat, by have := hEv.i1; omega⟩
      have hSm : SmallE Q L I rows := ⟨hEv, (gEnc_valid HG.out hEv).1, by have := (gEnc_valid HG.out hEv).2; omega⟩
      have hi1 : 1 ≤ I := by have := hEv.i1; omega
      have hi6 : I ≤ 6 := hSm.i6
      have hr1 : 1 ≤ rows.length := by have := hEv.r1; omega
      have hr6 := hSm.n6
      have HEn := hid (fun X h => encoder_any Q L I (.slice ao rows.length cap) rows X h hE hSm)
      have hPe := encP_prog hSm
      have hPl := encP_len Q L I rows
      obtain ⟨hw3, hw4, hw5, _, _⟩ := hSm.wids
      have hcl : (encP Q L I rows).1.code.length ≤ 20000 := by
        have h1 := (encP_ok Q L I rows).len
        have h2 : (encTabs Q L I rows).length ≤ 67 := by
          have := Nat.mul_le_mul (show L ≤ 16 by have := hEv.b16; omega) hw5
          simp [encTabs]; omega
        have h3 : 4 * 2 ^ (wid rows.length + wid I) ≤ 256 := by
          have := Nat.pow_le_pow_right (show 1 ≤ 2 by decide) (show wid rows.length + wid I ≤ 6 by omega)
          omega
        have := Nat.mul_le_mul h2 h3
        omega
      obtain ⟨_, hN24, _, hO6, hce, hoe⟩ := progErr_zero.1 hPe
      have hPe2 : progErr ((wid rows.length + wid I : Nat) : Int) (redC (wid rows.length + wid I) (encP Q L I rows).1.code (encP Q L I rows).2) (redO (wid rows.length + wid I) (encP Q L I rows).1.code (encP Q L I rows).2) = 0 := red_valid (by omega) hce hoe (by omega) hO6
      have HA1 := hid (fun vc vo X h1 h2 h3 => agree_ok Q L I (.slice ao rows.length cap) vc vo rows (encP Q L I rows).1.code (encP Q L I rows).2 X h1 h2 h3 hE hEv (by omega) hPe hPl fun s k row x hs hk hrow hx => encP_out hSm hs hk hrow hx)
      have HA2 := hid (fun vc vo X h1 h2 h3 => agree_ok Q L I (.slice ao rows.length cap) vc vo rows (redC (wid rows.length + wid I) (encP Q L I rows).1.code (encP Q L I rows).2) (redO (wid rows.length + wid I) (encP Q L I rows).1.code (encP Q L I rows).2) X h1 h2 h3 hE hEv (by omega) hPe2 (by rw [redO_len]; exact hPl) fun s k row x hs hk hrow hx => (red_same (by rw [List.length_append, binL_len, binL_len]) hce hoe).trans (encP_out hSm hs hk hrow hx))
      have HR1 : redI ((wid rows.length + wid I : Nat) : Int) (encP Q L I rows).1.code (encP Q L I rows).2 = ((wid rows.length + wid I : Nat) : Int) ∧ redE ((wid rows.length + wid I : Nat) : Int) (encP Q L I rows).1.code (encP Q L I rows).2 = 0 ∧ redN ((wid rows.length + wid I : Nat) : Int) (encP Q L I rows).1.code (encP Q L I rows).2 = redC (wid rows.length + wid I) (encP Q L I rows).1.code (encP Q L I rows).2 ∧ redP ((wid rows.length + wid I : Nat) : Int) (encP Q L I rows).1.code (encP Q L I rows).2 = redO (wid rows.length + wid I) (encP Q L I rows).1.code (encP Q L I rows).2 := by
        unfold redI redE redN redP
        rw [if_pos hPe, if_pos hPe, if_pos hPe, if_pos hPe, Int.toNat_natCast]
        exact ⟨rfl, rfl, rfl, rfl⟩
      have HRd := hid (fun vc vo X h1 h2 => show Calls Tryd.prog 13 #[.agg #[.int .i64 ((wid rows.length + wid I : Nat) : Int), vc, vo]] X fun e w' => ∃ vd vp, e = .returned (.tuple #[.agg #[.int .i64 ((wid rows.length + wid I : Nat) : Int), vd, vp], .int .i64 0]) ∧ Sl 3 w' vd (redC (wid rows.length + wid I) (encP Q L I rows).1.code (encP Q L I rows).2).length (icells (redC (wid rows.length + wid I) (encP Q L I rows).1.code (encP Q L I rows).2)) ∧ Sl 1 w' vp (redO (wid rows.length + wid I) (encP Q L I rows).1.code (encP Q L I rows).2).length (ints (redO (wid rows.length + wid I) (encP Q L I rows).1.code (encP Q L I rows).2)) ∧ Below X.heap.size X w' from
        (preduce_any ((wid rows.length + wid I : Nat) : Int) vc vo (encP Q L I rows).1.code (encP Q L I rows).2 X h1 h2).mono fun e w' h => by
          obtain ⟨vd, vp, g1, g2, g3, g4⟩ := h
          rw [HR1.1, HR1.2.1] at g1
          rw [HR1.2.2.1] at g2
          rw [HR1.2.2.2] at g3
          exact ⟨vd, vp, g1, Sl.of_owns g2, Sl.of_owns g3, g4⟩)
      have HRn := hid (fun vc vo X h1 h2 => prunTop_any ((wid rows.length + wid I : Nat) : Int) vc vo (encP Q L I rows).1.code (encP Q L I rows).2 (onesB (wid rows.length + wid I)) X h1 h2 (by rw [ones_size]; omega))
      rw [(run_ones hPe).1, (run_ones hPe).2] at HRn
      have HOn := hid (fun hp => bitS_zero (ones_out hSm hp))
      have HRp := hid (fun X => show Calls Tryd.prog 15 #[.string ⟨#[49]⟩, .int .i64 ((wid rows.length + wid I : Nat) : Int)] X fun e w' => e = .returned (.string (onesB (wid rows.length + wid I))) ∧ Below X.heap.size X w' from Tryd.strings_Repeat ⟨#[49]⟩ (wid rows.length + wid I) X (by omega) (by show 1 * (wid rows.length + wid I) ≤ 140737488355328; omega))
      have HP1 := hid (fun X => pow_any rows.length X (by omega) (by omega))
      have HP2 := hid (fun X => pow_any I X (by omega) (by omega))
      have hNN6 : wid rows.length + wid I ≤ 6 := by omega
      clear hE hEv hSm hPe hPl hcl hce hoe hPe2 hO6 hN24 hw3 hw4 hw5 HCk HR1
      generalize wid rows.length + wid I = NN at *
      generalize encP Q L I rows = P at *
      generalize rows.length = n at *
      generalize redC NN P.1.code P.2 = RC at *
      generalize redO NN P.1.code P.2 = RO at *
      generalize bitS (poutsV (List.replicate NN true) P.1.code P.2) = S1 at *
      generalize onesB NN = ON at *
      generalize P.1.code.length = PL at *
      generalize P.2.length = OL at *
      generalize RC.length = RL at *
      generalize RO.length = RK at *
      go_upto_region 4 with (go_at_call 8; refine (HEn.out _ (HM.out.below HB1.out)).mono ?_; rintro e w2 ⟨vc, vo, rfl, hvc, hvo, hb2⟩; have HC2 := hid hvc; have HO2 := hid hvo; obtain ⟨ac, cc, rfl, _, _, _, _⟩ := hvc; obtain ⟨ao2, co, rfl, _, _, _, _⟩ := hvo; have c0 := keeps hb2 c0; have c1 := keeps hb2 c1; have c2 := keeps hb2 c2; have c3 := keeps hb2 c3; have HB2 := hid (bel_step HB1.out hb2); clear hb2)
      clear HEn
      obtain ⟨w3, hw3⟩ : ∃ w3, w2.alloc (.cells #[.int .i64 (NN : Int), .slice ac PL cc, .slice ao2 OL co] 32) = w3 := ⟨_, rfl⟩
      obtain ⟨hb3, d0, d1, d2⟩ := box3A hw3
      rw [hw3]
      have c0 := keeps hb3 c0
      have c1 := keeps hb3 c1
      have c2 := keeps hb3 c2
      have c3 := keeps hb3 c3
      have HC3 := hid (HC2.out.below hb3)
      have HO3 := hid (HO2.out.below hb3)
      have HB3 := hid (bel_step HB2.out hb3)
      clear hw3 hb3 HC2 HO2
      generalize w2.heap.size = bp at *
      go_upto_region 7 with (go_at_call 13; refine (HRd.out _ _ w3 HC3.out HO3.out).mono ?_; rintro e w4 ⟨vd, vp, rfl, hvc, hvo, hb4⟩; have HD4 := hid hvc; have HP4 := hid hvo; obtain ⟨ad, cd, rfl, _, _, _, _⟩ := hvc; obtain ⟨ap, cp, rfl, _, _, _, _⟩ := hvo; have c0 := keeps hb4 c0; have c1 := keeps hb4 c1; have c2 := keeps hb4 c2; have c3 := keeps hb4 c3; have d0 := keeps hb4 d0; have d1 := keeps hb4 d1; have d2 := keeps hb4 d2; have HB4 := hid (bel_step HB3.out hb4); have HC4 := hid (HC3.out.below hb4); have HO4 := hid (HO3.out.below hb4); clear hb4)
      clear HRd
      obtain ⟨w5, hw5⟩ : ∃ w5, w4.alloc (.cells #[.int .i64 (NN : Int), .slice ad RL cd, .slice ap RK cp] 32) = w5 := ⟨_, rfl⟩
      obtain ⟨hb5, r0, r1, r2⟩ := box3A hw5
      rw [hw5]
      have c0 := keeps hb5 c0
      have c1 := keeps hb5 c1
      have c2 := keeps hb5 c2
      have c3 := keeps hb5 c3
      have d0 := keeps hb5 d0
      have d1 := keeps hb5 d1
      have d2 := keeps hb5 d2
      have HC5 := hid (HC4.out.below hb5)
      have HO5 := hid (HO4.out.below hb5)
      have HD5 := hid (HD4.out.below hb5)
      have HP5 := hid (HP4.out.below hb5)
      have HB5 := hid (bel_step HB4.out hb5)
      clear hw5 hb5 HC3 HO3 HC4 HO4 HD4 HP4
      generalize w4.heap.size = br at *
      go_upto_region 8 with (go_at_call 14; refine (HA1.out _ _ w5 (HM.out.below HB5.out) HC5.out HO5.out).mono ?_; rintro e w6 ⟨rfl, hb6⟩; have c0 := keeps hb6 c0; have c1 := keeps hb6 c1; have c2 := keeps hb6 c2; have c3 := keeps hb6 c3; have d0 := keeps hb6 d0; have d1 := keeps hb6 d1; have d2 := keeps hb6 d2; have r0 := keeps hb6 r0; have r1 := keeps hb6 r1; have r2 := keeps hb6 r2; have HB6 := hid (bel_step HB5.out hb6); have HC6 := hid (HC5.out.below hb6); have HO6 := hid (HO5.out.below hb6); have HD6 := hid (HD5.out.below hb6); have HP6 := hid (HP5.out.below hb6); clear hb6)
      clear HA1 HC5 HO5 HD5 HP5
      go_upto_region 9 with (go_at_call 14; refine (HA2.out _ _ w6 (HM.out.below HB6.out) HD6.out HP6.out).mono ?_; rintro e w7 ⟨rfl, hb7⟩; have c2 := keeps hb7 c2; have c3 := keeps hb7 c3; have d0 := keeps hb7 d0; have d1 := keeps hb7 d1; have d2 := keeps hb7 d2; have HB7 := hid (bel_step HB6.out hb7); have HC7 := hid (HC6.out.below hb7); have HO7 := hid (HO6.out.below hb7); clear hb7)
      clear HA2 HC6 HO6 HD6 HP6 c0 c1 r0 r1 r2
      go_upto_region 12 with (go_at_call 15; refine (HRp.out _).mono ?_; rintro e w8 ⟨rfl, hb8⟩; have c2 := keeps hb8 c2; have c3 := keeps hb8 c3; have d0 := keeps hb8 d0; have d1 := keeps hb8 d1; have d2 := keeps hb8 d2; have HB8 := hid (bel_step HB7.out hb8); have HC8 := hid (HC7.out.below hb8); have HO8 := hid (HO7.out.below hb8); clear hb8)
      clear HRp HC7 HO7
      go_upto_region 15 with (go_at_call 16; refine (HRn.out _ _ w8 HC8.out HO8.out).mono ?_; rintro e w9 ⟨rfl, hb9⟩; have c2 := keeps hb9 c2; have c3 := keeps hb9 c3; have HB9 := hid (bel_step HB8.out hb9); clear hb9)
      clear HRn HC8 HO8 d0 d1 d2
      by_cases hp : pw n = true ∧ pw I = true
      · rw [hp.1] at HP1
        rw [hp.2] at HP2
        clear hp HOn
        go_wp2_with (first
          | (go_at_call 17; refine (HP1.out _).mono ?_; rintro e w10 ⟨rfl, rfl⟩)
          | (go_at_call 17; refine (HP2.out _).mono ?_; rintro e w10 ⟨rfl, rfl⟩)
          | (go_at_call 7; refine (HAw.out _).mono ?_; rintro e w11 ⟨rfl, hb11⟩))
        go_ret
        exact ⟨rfl, bel_step HB9.out hb11⟩
      · have HCt := hid (fun X => contZ_any S1 X (HOn.out hp))
        clear HOn
        cases h1 : pw n
        · rw [h1] at HP1
          clear hp h1
          go_wp2_with (first
            | (go_at_call 17; refine (HP1.out _).mono ?_; rintro e w10 ⟨rfl, rfl⟩)
            | (go_at_call 18; refine (HCt.out _).mono ?_; rintro e w10 ⟨rfl, rfl⟩)
            | (go_at_call 7; refine (HAw.out _).mono ?_; rintro e w11 ⟨rfl, hb11⟩))
          go_ret
          exact ⟨rfl, bel_step HB9.out hb11⟩
        · have h2 : pw I = false := by cases h : pw I with | false => rfl | true => exact absurd ⟨h1, h⟩ hp
          rw [h1] at HP1
          rw [h2] at HP2
          clear hp h1 h2
          go_wp2_with (first
            | (go_at_call 17; refine (HP1.out _).mono ?_; rintro e w10 ⟨rfl, rfl⟩)
            | (go_at_call 17; refine (HP2.out _).mono ?_; rintro e w10 ⟨rfl, rfl⟩)
            | (go_at_call 18; refine (HCt.out _).mono ?_; rintro e w10 ⟨rfl, rfl⟩)
            | (go_at_call 7; refine (HAw.out _).mono ?_; rintro e w11 ⟨rfl, hb11⟩))
          go_ret
          exact ⟨rfl, bel_step HB9.out hb11⟩
    · have HEn := hid (fun X h => encoder_bad q bl inp (.slice ao rows.length cap) rows X h hE)
      have hE2 : (eErr q bl inp rows != 0) = true := by simp [hE]
      clear hE
      generalize eErr q bl inp rows = E at *
      generalize rows.length = n at *
      go_upto_region 4 with (go_at_call 8; refine (HEn.out _ (HM.out.below HB1.out)).mono ?_; rintro e w2 ⟨rfl, hb2⟩; have c0 := keeps hb2 c0; have c1 := keeps hb2 c1; have c2 := keeps hb2 c2; have c3 := keeps hb2 c3; have HB2 := hid (bel_step HB1.out hb2); clear hb2)
      clear HEn
      obtain ⟨w3, hw3⟩ : ∃ w3, w2.alloc (.cells #[.int .i64 0, .slice none 0 0, .slice none 0 0] 32) = w3 := ⟨_, rfl⟩
      obtain ⟨hb3, d0, d1, d2⟩ := box3A hw3
      rw [hw3]
      have c0 := keeps hb3 c0
      have c1 := keeps hb3 c1
      have c2 := keeps hb3 c2
      have c3 := keeps hb3 c3
      have HB3 := hid (bel_step HB2.out hb3)
      have HSm := hid (fun X => psame_any 0 (.slice none 0 0) (.slice none 0 0) (.slice none 0 0) (.slice none 0 0) [] [] X (Sl.of_owns (World.ownsRow_nil X X.heap.size 56 _)) (Sl.of_owns (World.ownsRow_nil X X.heap.size 3 _)) (Sl.of_owns (World.ownsRow_nil X X.heap.size 56 _)) (Sl.of_owns (World.ownsRow_nil X X.heap.size 3 _)))
      clear hw3 hb3
      generalize w2.heap.size = bp at *
      go_wp2_with (first
        | (go_at_call 11; refine (HCk.out _ (HM.out.below HB3.out)).mono ?_; rintro e w4 ⟨rfl, hb4⟩; have d0 := keeps hb4 d0; have d1 := keeps hb4 d1; have d2 := keeps hb4 d2; have HB4 := hid (bel_step HB3.out hb4); clear hb4)
        | (go_at_call 12; refine (HSm.out _).mono ?_; rintro e w5 ⟨rfl, hb5⟩; have HB5 := hid (bel_step HB4.out hb5); clear hb5)
        | (go_at_call 7; refine (HAw.out _).mono ?_; rintro e w6 ⟨rfl, hb6⟩))
      go_ret
      exact ⟨rfl, bel_step HB5.out hb6⟩
  · rw [hg] at HGr
    clear hg
    go_wp2_with (first
      | (go_at_call 5; refine (HGr.out _ (HM.out.below HB0.out)).mono ?_; rintro e w1 ⟨rfl, hb1⟩; have c0 := keeps hb1 c0; have c1 := keeps hb1 c1; have c2 := keeps hb1 c2; have c3 := keeps hb1 c3; have HB1 := hid (bel_step HB0.out hb1); clear hb1)
      | (go_at_call 7; refine (HAw.out _).mono ?_; rintro e w3 ⟨rfl, hb3⟩))
    go_ret
    exact ⟨rfl, bel_step HB1.out hb3⟩
end Go.Proofs.YtdfkcfmbiofggaaDoor
