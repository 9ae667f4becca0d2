/-
  groovetop.TopProgramRuns: the reduced program of an encoder, run input by input, writes what the encoder writes.
  No condition beyond the rows and the bytes lying in slices.
-/
import Derived.Test.YtmibbhghbhjmmaaDoorTop53Aw
import Derived.Test.YtmibbhghbhjmmaaDoorTop53In
import Derived.Test.YtmibbhghbhjmmaaDoorEncMany
import Derived.Test.YtmibbhghbhjmmaaDoorPrReduce
import Derived.Deep.QuietTactic
namespace Go.Proofs.YtmibbhghbhjmmaaDoor
open Go.RowKit Go.Deep
set_option linter.unusedVariables false

theorem inpL_lt {I : Nat} (hI : 1 ≤ I) (l : List Int) : ∀ k ∈ inpL I l, (k : Int) < (I : Int) := by
  intro k hk
  obtain ⟨x, _, rfl⟩ := List.mem_map.1 hk
  have := Nat.mod_lt x.toNat (show I > 0 by omega)
  omega
theorem inpL_len (I : Nat) (l : List Int) : (inpL I l).length = l.length := by simp [inpL]
theorem ba_app (bs : List UInt8) (s : ByteArray) : (⟨bs.toArray⟩ : ByteArray) ++ s = ⟨(bs ++ s.data.toList).toArray⟩ := by
  apply ba_ext
  simp
theorem store3 {w : World} {b : Nat} {x y z p q r : Value} {T : TypeId} {fz : Nat × Nat} (h : w.heap[b]? = some (.cells #[p, q, r] T fz)) : (((w.setCell ⟨b, 0, none⟩ x).setCell ⟨b, 1, none⟩ y).setCell ⟨b, 2, none⟩ z).heap[b]? = some (.cells #[x, y, z] T fz) := by
  simp [World.setCell, Array.getElem?_modify, h]
set_option maxRecDepth 100000 in
set_option maxHeartbeats 8000000 in
theorem topProgramRuns_any (q bl inp : Int) (v : Value) (rows : List (List Cl)) (A : Int) (u : Value) (l : List Int) (w : World) (hM : MC w v rows) (hA0 : IntKind.u8.min ≤ A) (hA1 : A ≤ IntKind.u8.max) (hl : Sl 1 w u l.length (l.map (.int .u8))) (hby : ∀ x ∈ l, IntKind.u8.min ≤ x ∧ x ≤ IntKind.u8.max) :
    Calls Tryd.prog 3 #[.agg #[.int .i64 q, .int .i64 bl, .int .i64 inp, v], .int .u8 A, u] w fun e w' => e = .returned (.bool true) ∧ Below w.heap.size w w' := by
  have hA0 : 0 ≤ A := hA0
  have hA1 : A ≤ 255 := hA1
  have HBy := hid (show ∀ x ∈ l, 0 ≤ x ∧ x ≤ 255 from hby)
  obtain ⟨A, rfl⟩ : ∃ A' : Nat, A = A' := ⟨A.toNat, by omega⟩
  have HM := hid hM
  have HL := hid hl
  have HFn := hid (fun X h => fine_any q bl inp v rows X h)
  have HAw := hid awake_any
  obtain ⟨ao, cap, rfl, hc1, hc2⟩ := hM.slice
  obtain ⟨al, cl, rfl, hl1, hl2, hl3, _⟩ := hl
  clear hM hby hl1
  go_enter Tryd.func3, Tryd.ntmps3
  go_upto_region 1 with fail
  obtain ⟨w0, hw0⟩ : ∃ w0, w.alloc (.cells #[.int .i64 q, .int .i64 bl, .int .i64 inp, .slice ao rows.length cap] 24) = w0 := ⟨_, rfl⟩
  obtain ⟨hb0, c0, c1, c2, c3⟩ := boxedE hw0
  rw [hw0]
  have HB0 := hid hb0
  clear hw0 hb0
  cases hF : (!gEnc rows && decide (eErr q bl inp rows = 0))
  · rw [hF] at HFn
    clear hF
    generalize l.length = N at *
    go_wp2_with (first
      | (go_at_call 5; refine (HFn.out _ (HM.out.below HB0.out)).mono ?_; rintro e w1 ⟨rfl, hb1⟩; have HB1 := hid (bel_step HB0.out hb1); clear hb1)
      | (go_at_call 6; refine (HAw.out _).mono ?_; rintro e w3 ⟨rfl, hb3⟩))
    go_ret
    exact ⟨rfl, bel_step HB1.out hb3⟩
  · rw [hF] at HFn
    rw [Bool.and_eq_true, Bool.not_eq_true', decide_eq_true_iff] at hF
    obtain ⟨hg, hE⟩ := hF
    by_cases hln : 10 < l.length
    · clear hg hE
      generalize l.length = N at *
      have hln2 : (10 : Int) < (N : Int) := by omega
      go_wp2_with (first
        | (go_at_call 5; refine (HFn.out _ (HM.out.below HB0.out)).mono ?_; rintro e w1 ⟨rfl, hb1⟩; have HB1 := hid (bel_step HB0.out hb1); clear hb1)
        | (go_at_call 6; refine (HAw.out _).mono ?_; rintro e w3 ⟨rfl, hb3⟩))
      go_ret
      exact ⟨rfl, bel_step HB1.out hb3⟩
    · have hEv := eErr_zero hE
      obtain ⟨Q, rfl⟩ : ∃ Q : Nat, q = Q := ⟨q.toNat, by have := hEv.q1; omega⟩
      obtain ⟨L, rfl⟩ : ∃ L : Nat, bl = L := ⟨bl.toNat, by have := hEv.b1; omega⟩
      obtain ⟨I, rfl⟩ : ∃ I : Nat, inp = I := ⟨inp.toNat, by have := hEv.i1; omega⟩
      have hSm : SmallE Q L I rows := ⟨hEv, (gEnc_valid hg hEv).1, by have := (gEnc_valid hg hEv).2; omega⟩
      have hi1 : 1 ≤ I := by have := hEv.i1; omega
      have hi6 : I ≤ 6 := hSm.i6
      have hb16 := hEv.b16
      have hr1 : 1 ≤ rows.length := by have := hEv.r1; omega
      have hr6 := hSm.n6
      have HEn := hid (fun X h => encoder_any Q L I (.slice ao rows.length cap) rows X h hE hSm)
      have hPe := encP_prog hSm
      have hPl := encP_len Q L I rows
      obtain ⟨hw3, hw4, hw5, _, _⟩ := hSm.wids
      have hcl : (encP Q L I rows).1.code.length ≤ 20000 := by
        have h1 := (encP_ok Q L I rows).len
        have h2 : (encTabs Q L I rows).length ≤ 67 := by
          have := Nat.mul_le_mul (show L ≤ 16 by have := hEv.b16; omega) hw5
          simp [encTabs]; omega
        have h3 : 4 * 2 ^ (wid rows.length + wid I) ≤ 256 := by
          have := Nat.pow_le_pow_right (show 1 ≤ 2 by decide) (show wid rows.length + wid I ≤ 6 by omega)
          omega
        have := Nat.mul_le_mul h2 h3
        omega
      obtain ⟨_, hN24, _, hO6, hce, hoe⟩ := progErr_zero.1 hPe
      have hPe2 : progErr ((wid rows.length + wid I : Nat) : Int) (redC (wid rows.length + wid I) (encP Q L I rows).1.code (encP Q L I rows).2) (redO (wid rows.length + wid I) (encP Q L I rows).1.code (encP Q L I rows).2) = 0 := red_valid (by omega) hce hoe (by omega) hO6
      have HSt := hid (fun s k vc vo X row x h1 h2 h3 hs hk hrow hx => pstep_ok Q L I s k (.slice ao rows.length cap) vc vo rows row x (redC (wid rows.length + wid I) (encP Q L I rows).1.code (encP Q L I rows).2) (redO (wid rows.length + wid I) (encP Q L I rows).1.code (encP Q L I rows).2) X h1 h2 h3 hE hEv (by omega) hPe2 (by rw [redO_len]; exact hPl) hs hk hrow hx ((red_same (by rw [List.length_append, binL_len, binL_len]) hce hoe).trans (encP_out hSm hs hk hrow hx)))
      have HR1 : redI ((wid rows.length + wid I : Nat) : Int) (encP Q L I rows).1.code (encP Q L I rows).2 = ((wid rows.length + wid I : Nat) : Int) ∧ redE ((wid rows.length + wid I : Nat) : Int) (encP Q L I rows).1.code (encP Q L I rows).2 = 0 ∧ redN ((wid rows.length + wid I : Nat) : Int) (encP Q L I rows).1.code (encP Q L I rows).2 = redC (wid rows.length + wid I) (encP Q L I rows).1.code (encP Q L I rows).2 ∧ redP ((wid rows.length + wid I : Nat) : Int) (encP Q L I rows).1.code (encP Q L I rows).2 = redO (wid rows.length + wid I) (encP Q L I rows).1.code (encP Q L I rows).2 := by
        unfold redI redE redN redP
        rw [if_pos hPe, if_pos hPe, if_pos hPe, if_pos hPe, Int.toNat_natCast]
        exact ⟨rfl, rfl, rfl, rfl⟩
      have HRd := hid (fun vc vo X h1 h2 => show Calls Tryd.prog 8 #[.agg #[.int .i64 ((wid rows.length + wid I : Nat) : Int), vc, vo]] X fun e w' => ∃ vd vp, e = .returned (.tuple #[.agg #[.int .i64 ((wid rows.length + wid I : Nat) : Int), vd, vp], .int .i64 0]) ∧ w'.ownsRow X.heap.size 73 3 vd (redC (wid rows.length + wid I) (encP Q L I rows).1.code (encP Q L I rows).2).length (icells (redC (wid rows.length + wid I) (encP Q L I rows).1.code (encP Q L I rows).2)) ∧ w'.ownsRow X.heap.size 3 1 vp (redO (wid rows.length + wid I) (encP Q L I rows).1.code (encP Q L I rows).2).length (ints (redO (wid rows.length + wid I) (encP Q L I rows).1.code (encP Q L I rows).2)) ∧ Below X.heap.size X w' from
        (preduce_any ((wid rows.length + wid I : Nat) : Int) vc vo (encP Q L I rows).1.code (encP Q L I rows).2 X h1 h2).mono fun e w' h => by
          obtain ⟨vd, vp, g1, g2, g3, g4⟩ := h
          rw [HR1.1, HR1.2.1] at g1
          rw [HR1.2.2.1] at g2
          rw [HR1.2.2.2] at g3
          exact ⟨vd, vp, g1, g2, g3, g4⟩)
      have hwA : IntKind.i64.wrap (A : Int) = (A : Int) := IntWalk.i64_in _ (by omega)
      have hn0 : ¬ rows.length = 0 := by omega
      obtain ⟨s, hs⟩ : ∃ s : Nat, A % rows.length = s := ⟨_, rfl⟩
      have hsA : (A : Int).tmod (rows.length : Int) = (s : Int) := by rw [← hs]; rfl
      have hsn : s < rows.length := by rw [← hs]; exact Nat.mod_lt _ (by omega)
      have HIn := hid (fun X h1 h2 => inputs_any (Q : Int) (L : Int) I (.slice ao rows.length cap) (.slice al l.length cl) rows l X h1 h2 HBy.out (by omega) hi1 (by omega))
      have HEc := hid (fun vi X h1 h2 => encode_any Q L I s (.slice ao rows.length cap) vi rows (inpL I l) X h1 hE hEv hsn (inpL_lt hi1 l) (by rw [inpL_len]; omega) h2)
      rw [inpL_len] at HEc
      have HTk := hid (encR_take hEv hsn (inpL_lt hi1 l))
      have HCa := hid (fun s' k h1 h2 => cell_at hEv (s := s') (k := k) h1 h2)
      have HKs := hid (inpL_lt hi1 l)
      have HKl := hid (inpL_len I l)
      clear hE hEv hSm hPe hPl hcl hce hoe hPe2 hO6 hN24 hw3 hw4 hw5 HR1 hs hg HBy
      generalize encP Q L I rows = P at *
      generalize redC (wid rows.length + wid I) P.1.code P.2 = RC at *
      generalize redO (wid rows.length + wid I) P.1.code P.2 = RO at *
      generalize wid rows.length + wid I = NN at *
      generalize hrn : rows.length = n at *
      generalize l.length = N at *
      generalize P.1.code.length = PL at *
      generalize P.2.length = OL at *
      generalize RC.length = RL at *
      generalize RO.length = RK at *
      have HRn := hid hrn
      clear hrn
      go_upto_region 3 with (go_at_call 5; refine (HFn.out _ (HM.out.below HB0.out)).mono ?_; rintro e w1 ⟨rfl, hb1⟩; have HB1 := hid (bel_step HB0.out hb1); have c0 := keeps hb1 c0; have c1 := keeps hb1 c1; have c2 := keeps hb1 c2; have c3 := keeps hb1 c3; clear hb1)
      clear HFn
      go_upto_region 4 with (go_at_call 7; refine (HEn.out _ (HM.out.below HB1.out)).mono ?_; rintro e w2 ⟨vc, vo, rfl, hvc, hvo, hb2⟩; have HC2 := hid hvc; have HO2 := hid hvo; obtain ⟨ac, cc, rfl, _, _, _, _⟩ := hvc; obtain ⟨ao2, co, rfl, _, _, _, _⟩ := hvo; have c0 := keeps hb2 c0; have c1 := keeps hb2 c1; have c2 := keeps hb2 c2; have c3 := keeps hb2 c3; have HB2 := hid (bel_step HB1.out hb2); clear hb2)
      clear HEn
      have HBp : w.heap.size < w2.heap.size := World.block_lt_of_cell? w2 _ c0
      obtain ⟨w3, hw3⟩ : ∃ w3, w2.alloc (.cells #[.int .i64 (NN : Int), .slice ac PL cc, .slice ao2 OL co] 31) = w3 := ⟨_, rfl⟩
      obtain ⟨hb3, d0, d1, d2⟩ := box3T hw3
      have hk3 : w3.heap[w2.heap.size]? = some (.cells #[.int .i64 (NN : Int), .slice ac PL cc, .slice ao2 OL co] 31 (0, 0)) := by rw [← hw3]; exact heap_alloc_new w2 _
      rw [hw3]
      have HK3 := hid hk3
      have c0 := keeps hb3 c0
      have c1 := keeps hb3 c1
      have c2 := keeps hb3 c2
      have c3 := keeps hb3 c3
      have HC3 := hid (HC2.out.below hb3)
      have HO3 := hid (HO2.out.below hb3)
      have HB3 := hid (bel_step HB2.out hb3)
      have HSz2 := hid HBp
      clear hw3 hb3 hk3 HC2 HO2
      generalize w2.heap.size = bp at *
      go_upto_region 5 with (go_at_call 8; refine (HRd.out _ _ w3 HC3.out HO3.out).mono ?_; rintro e w4 ⟨vd, vp, rfl, hvc, hvo, hb4⟩; have HD4 := hid hvc; have HP4 := hid hvo; obtain ⟨ad, cd, rfl⟩ := own_slice hvc; obtain ⟨ap, cp, rfl⟩ := own_slice hvo; clear hvc hvo; have c0 := keeps hb4 c0; have c1 := keeps hb4 c1; have c2 := keeps hb4 c2; have c3 := keeps hb4 c3; have d0 := keeps hb4 d0; have d1 := keeps hb4 d1; have d2 := keeps hb4 d2; have hk4 := (hb4.block _ (Array.getElem?_eq_some_iff.1 HK3.out).1).trans HK3.out; have f0 := Lib.frozen_of_heap hk4 0; have f1 := Lib.frozen_of_heap hk4 1; have f2 := Lib.frozen_of_heap hk4 2; have HK4 := hid hk4; clear hk4; have HB4 := hid (bel_step HB3.out hb4); clear hb4)
      obtain ⟨w5, hw5⟩ : ∃ w5, ((w4.setCell ⟨bp, 0, none⟩ (.int .i64 (NN : Int))).setCell ⟨bp, 1, none⟩ (.slice ad RL cd)).setCell ⟨bp, 2, none⟩ (.slice ap RK cp) = w5 := ⟨_, rfl⟩
      have hb3 : bp < w3.heap.size := (Array.getElem?_eq_some_iff.1 HK3.out).1
      have hlt : w.heap.size < bp := HSz2.out
      have hb5 : Below w.heap.size w w5 := by
        rw [← hw5]
        exact ((HB4.out.setCell (by show w.heap.size ≤ bp; omega) _).setCell (by show w.heap.size ≤ bp; omega) _).setCell (by show w.heap.size ≤ bp; omega) _
      have hs1 := fun (a : Addr) (v : Value) (h : w4.cell? a = some v) (hb : a.block ≠ bp) => (show w5.cell? a = some v by
        rw [← hw5]
        rw [World.cell?_setCell_far _ _ _ _ (Ne.symm hb), World.cell?_setCell_far _ _ _ _ (Ne.symm hb), World.cell?_setCell_far _ _ _ _ (Ne.symm hb)]
        exact h)
      have c0 := hs1 _ _ c0 (by show w.heap.size ≠ bp; omega)
      have c1 := hs1 _ _ c1 (by show w.heap.size ≠ bp; omega)
      have c2 := hs1 _ _ c2 (by show w.heap.size ≠ bp; omega)
      have c3 := hs1 _ _ c3 (by show w.heap.size ≠ bp; omega)
      have hk5 : w5.heap[bp]? = some (.cells #[.int .i64 (NN : Int), .slice ad RL cd, .slice ap RK cp] 31 (0, 0)) := by
        rw [← hw5]; exact store3 HK4.out
      have HC5 := hid (show Sl 3 w5 (.slice ad RL cd) RL (icells RC) by
        rw [← hw5]
        exact Sl.of_owns (ownsRow_setCell_below (ownsRow_setCell_below (ownsRow_setCell_below HD4.out (a := ⟨bp, 0, none⟩) hb3 _) (a := ⟨bp, 1, none⟩) hb3 _) (a := ⟨bp, 2, none⟩) hb3 _))
      have HO5 := hid (show Sl 1 w5 (.slice ap RK cp) RK (ints RO) by
        rw [← hw5]
        exact Sl.of_owns (ownsRow_setCell_below (ownsRow_setCell_below (ownsRow_setCell_below HP4.out (a := ⟨bp, 0, none⟩) hb3 _) (a := ⟨bp, 1, none⟩) hb3 _) (a := ⟨bp, 2, none⟩) hb3 _))
      have y0 : w5.cell? ⟨bp, 0, none⟩ = some (.int .i64 (NN : Int)) := by rw [Lib.cell_of_heap hk5]; rfl
      have y1 : w5.cell? ⟨bp, 1, none⟩ = some (.slice ad RL cd) := by rw [Lib.cell_of_heap hk5]; rfl
      have y2 : w5.cell? ⟨bp, 2, none⟩ = some (.slice ap RK cp) := by rw [Lib.cell_of_heap hk5]; rfl
      have HB5 := hid hb5
      rw [hw5]
      clear hw5 hb3 hlt hb5 hs1 hk5 HD4 HP4 HK3 HK4 HRd HC3 HO3 f0 f1 f2
      clear d0 d1 d2
      go_upto_region 7 with fail
      have HY := hid (show ∀ X, Below w5.heap.size w5 X → X.cell? ⟨bp, 0, none⟩ = some (.int .i64 (NN : Int)) ∧ X.cell? ⟨bp, 1, none⟩ = some (.slice ad RL cd) ∧ X.cell? ⟨bp, 2, none⟩ = some (.slice ap RK cp) from fun X h => ⟨keeps h y0, keeps h y1, keeps h y2⟩)
      clear y0 y1 y2
      have hbd : Below w5.heap.size w5 w5.drew := below_drewN (Below.refl _ _) 1
      have HBd := hid hbd
      clear hbd
      go_region_held3 (fun w' => w'.cell? ⟨w.heap.size, 0, none⟩ = some (.int .i64 (Q : Int)) ∧ w'.cell? ⟨w.heap.size, 1, none⟩ = some (.int .i64 (L : Int)) ∧ w'.cell? ⟨w.heap.size, 2, none⟩ = some (.int .i64 (I : Int)) ∧ w'.cell? ⟨w.heap.size, 3, none⟩ = some (.slice ao n cap))
        (first | exact ⟨c0, c1, c2, c3⟩ | go_keep)
        (first | (go_at_call 9; refine (HIn.out _ (HM.out.below (bel_step HB5.out HBd.out)) (HL.out.below (bel_step HB5.out HBd.out))).mono ?_; rintro e w6 ⟨vi, rfl, hin, hb6⟩; have HI6 := hid (Sl.of_owns hin); have hb6 := bel_step HBd.out hb6; have HB6 := hid hb6; obtain ⟨ai, ci, rfl⟩ := own_slice hin; have c0 := keeps hb6 c0; have c1 := keeps hb6 c1; have c2 := keeps hb6 c2; have c3 := keeps hb6 c3; clear hin hb6))
      have hn10 : N ≤ 10 := by omega
      clear hsA hwA hn0 hln
      have HBw := hid (bel_step HB5.out HB6.out)
      have HCs := hid (show ∀ X, Below w6.heap.size w6 X → (X.cell? ⟨w.heap.size, 0, none⟩ = some (.int .i64 (Q : Int)) ∧ X.cell? ⟨w.heap.size, 1, none⟩ = some (.int .i64 (L : Int)) ∧ X.cell? ⟨w.heap.size, 2, none⟩ = some (.int .i64 (I : Int)) ∧ X.cell? ⟨w.heap.size, 3, none⟩ = some (.slice ao n cap)) from fun X h => ⟨keeps h c0, keeps h c1, keeps h c2, keeps h c3⟩)
      clear HIn
      go_upto_region 9 with (go_at_call 10; refine (HEc.out _ w6 (HM.out.below HBw.out) HI6.out).mono ?_; rintro e w7 ⟨rfl, hb7⟩; have HB7 := hid hb7; clear hb7)
      clear c0 c1 c2 c3 HEc
      generalize inpL I l = ks at *
      obtain ⟨pE, hpE⟩ : ∃ p, encR rows s ks = p := ⟨_, rfl⟩
      rw [hpE]
      have HPE := hid hpE
      clear hpE
      go_wp2_with fail
      go_loopw [65, 10, 15] (fun a b c wr => ∃ j : Nat, j ≤ N ∧ a = .int .i64 (j : Nat) ∧ b = .int .i64 ((encR rows s (ks.take j)).1 : Int) ∧ c = .string ⟨(encR rows s (ks.take j)).2.toArray⟩ ∧ Hid (Below w6.heap.size w6 wr)) (fun a _ _ _ => N - (intOf a).toNat)
      case atStart => exact ⟨0, Nat.zero_le _, rfl, rfl, rfl, hid HB7.out⟩
      case round =>
        obtain ⟨j, hj, rfl, rfl, rfl, HB⟩ := hrel
        rename World => wk
        by_cases hjn : j < N
        · obtain ⟨k, hk⟩ := some_of_lt (show j < ks.length by rw [HKl.out]; exact hjn)
          obtain ⟨b, o, rfl, ck⟩ := (HI6.out.below HB.out).cell (show (natI ks)[j]? = some (.int .i64 (k : Int)) by simp [natI, ints, hk])
          obtain ⟨t1, t2⟩ := HTk.out j (by rw [HKl.out]; exact hj)
          have hkI := HKs.out k (List.mem_of_getElem? hk)
          obtain ⟨row, hrow, hx, x0, x1, x2⟩ := HCa.out _ k t1 hkI
          have HSn := hid (show encR rows s (ks.take (j + 1)) = encStep rows (encR rows s (ks.take j)) k by rw [take_snoc hk, encR_snoc])
          have hbl : (encR rows s (ks.take j)).2.length ≤ 160 := by
            have h1 := Nat.mul_le_mul (show L ≤ 16 by omega) (show j ≤ 10 by omega)
            have : ((L * j : Nat) : Int) = ((encR rows s (ks.take j)).2.length : Int) := by rw [Int.natCast_mul]; exact t2.symm
            omega
          generalize encR rows s (ks.take j) = p at *
          obtain ⟨st, bs⟩ := p
          have HStk := hid (fun vc vo X h1 h2 h3 => HSt.out st k vc vo X row (cellAt rows st k) h1 h2 h3 t1 (by omega) hrow hx)
          have HEs := hid (show (encStep rows (st, bs) k) = ((cellAt rows st k).st.toNat, bs ++ (cellAt rows st k).word.data.toList) from rfl)
          generalize cellAt rows st k = x at *
          clear t1 t2 hrow hx hkI hk
          simp only at hbl
          obtain ⟨c0, c1, c2, c3⟩ := HCs.out _ HB.out
          obtain ⟨y0, y1, y2⟩ := HY.out _ (bel_step HB6.out HB.out)
          have HBk := hid (bel_step HBw.out HB.out)
          have HBk5 := hid (bel_step HB6.out HB.out)
          go_wp2_with (go_at_call 11; refine (HStk.out _ _ wk (HM.out.below HBk.out) (HC5.out.below HBk5.out) (HO5.out.below HBk5.out)).mono ?_; rintro e w8 ⟨rfl, hb8⟩; have HB8 := hid (bel_step HB.out hb8); clear hb8)
          go_roundw
          case rel =>
            refine ⟨j + 1, by omega, by go_num, ?_, ?_, HB8⟩
            · rw [HSn.out, HEs.out]
              exact int_eq (by show x.st = ((x.st.toNat : Nat) : Int); omega)
            · rw [HSn.out, HEs.out, ba_app]
          case measure => simp [intOf]; omega
        · obtain rfl : j = N := by omega
          have e : ks.take j = ks := List.take_of_length_le (by rw [HKl.out]; exact Nat.le_refl _)
          rw [e, HPE.out]
          go_wp2_with (go_at_call 6; refine (HAw.out _).mono ?_; rintro e w9 ⟨rfl, hb9⟩)
          go_ret
          exact ⟨rfl, bel_step (bel_step HBw.out HB.out) hb9⟩
end Go.Proofs.YtmibbhghbhjmmaaDoor
