/-
  The reference's Table at a valid encoder that is not large; both Tables, and the reference's Encoder, at an encoder that is not valid.
  No condition beyond the rows lying in a slice.
-/
import Derived.Test.YtcdfghogmdhfcaaGreatDoorMg34
import Derived.Test.YtcdfghogmdhfcaaGreatDoorRfEnc
namespace Go.Proofs.YtcdfghogmdhfcaaGreatDoor
open Go.RowKit Go.Deep
set_option linter.unusedVariables false
set_option linter.unusedSimpArgs false

set_option maxRecDepth 100000 in
set_option maxHeartbeats 4000000 in
theorem table_bad (q bl inp : Int) (v : Value) (rows : List (List Cl)) (w : World) (hM : MC w v rows) (hE : ¬ eErr q bl inp rows = 0) :
    Calls Tryz.prog 9 #[.agg #[.int .i64 q, .int .i64 bl, .int .i64 inp, v]] w fun e w' => e = .returned (.tuple #[.string ⟨#[]⟩, .int .i64 1]) ∧ Below w.heap.size w w' := by
  have HM := hid hM
  have HCk := hid (fun X h => echk_any q bl inp v rows X h)
  obtain ⟨ao, cap, rfl, hc1, hc2⟩ := hM.slice
  have hE2 : (eErr q bl inp rows != 0) = true := by simp [hE]
  clear hM hE
  generalize eErr q bl inp rows = E at *
  generalize hn : rows.length = n at *
  clear hn
  go_enter Tryz.func9, Tryz.ntmps9
  go_upto_region 1 with fail
  obtain ⟨w0, hw0⟩ : ∃ w0, w.alloc (.cells #[.int .i64 q, .int .i64 bl, .int .i64 inp, .slice ao n cap] 24) = w0 := ⟨_, rfl⟩
  obtain ⟨hb0, c0, c1, c2, c3⟩ := boxedE hw0
  rw [hw0]
  have HB0 := hid hb0
  clear hw0 hb0
  go_wp2_with (go_at_call 19; refine (HCk.out _ (HM.out.below HB0.out)).mono ?_; rintro e w1 ⟨rfl, hb1⟩; have HB1 := hid (bel_step HB0.out hb1); clear hb1)
  go_ret2
  exact ⟨rfl, HB1.out⟩
set_option maxRecDepth 100000 in
set_option maxHeartbeats 4000000 in
theorem rtable_bad (q bl inp : Int) (v : Value) (rows : List (List Cl)) (w : World) (hM : MC w v rows) (hE : ¬ eErr q bl inp rows = 0) :
    Calls Tryz.prog 10 #[.agg #[.int .i64 q, .int .i64 bl, .int .i64 inp, v]] w fun e w' => e = .returned (.tuple #[.string ⟨#[]⟩, .int .i64 1]) ∧ Below w.heap.size w w' := by
  have HM := hid hM
  have HCk := hid (fun X h => rechk_any q bl inp v rows X h)
  obtain ⟨ao, cap, rfl, hc1, hc2⟩ := hM.slice
  have hE2 : (eErr q bl inp rows != 0) = true := by simp [hE]
  clear hM hE
  generalize eErr q bl inp rows = E at *
  generalize hn : rows.length = n at *
  clear hn
  go_enter Tryz.func10, Tryz.ntmps10
  go_upto_region 1 with fail
  obtain ⟨w0, hw0⟩ : ∃ w0, w.alloc (.cells #[.int .i64 q, .int .i64 bl, .int .i64 inp, .slice ao n cap] 24) = w0 := ⟨_, rfl⟩
  obtain ⟨hb0, c0, c1, c2, c3⟩ := boxedE hw0
  rw [hw0]
  have HB0 := hid hb0
  clear hw0 hb0
  go_wp2_with (go_at_call 24; refine (HCk.out _ (HM.out.below HB0.out)).mono ?_; rintro e w1 ⟨rfl, hb1⟩; have HB1 := hid (bel_step HB0.out hb1); clear hb1)
  go_ret2
  exact ⟨rfl, HB1.out⟩
set_option maxRecDepth 100000 in
set_option maxHeartbeats 8000000 in
theorem rencoder_bad (q bl inp : Int) (v : Value) (rows : List (List Cl)) (w : World) (hM : MC w v rows) (hE : ¬ eErr q bl inp rows = 0) :
    Calls Tryz.prog 8 #[.agg #[.int .i64 q, .int .i64 bl, .int .i64 inp, v]] w fun e w' => e = .returned (.tuple #[.agg #[.int .i64 0, .slice none 0 0, .slice none 0 0], .int .i64 1]) ∧ Below w.heap.size w w' := by
  have HM := hid hM
  have HCk := hid (fun X h => rechk_any q bl inp v rows X h)
  obtain ⟨ao, cap, rfl, hc1, hc2⟩ := hM.slice
  have hE2 : (eErr q bl inp rows != 0) = true := by simp [hE]
  clear hM hE
  generalize eErr q bl inp rows = E at *
  generalize hn : rows.length = n at *
  clear hn
  go_enter Tryz.func8, Tryz.ntmps8
  go_upto_region 1 with fail
  obtain ⟨w0, hw0⟩ : ∃ w0, (w.alloc (.cells #[.int .i64 q, .int .i64 bl, .int .i64 inp, .slice ao n cap] 24)).alloc (.cells #[.int .i64 0, .slice none 0 0, .slice none 0 0] 28) = w0 := ⟨_, rfl⟩
  have hb0 : Below w.heap.size w w0 := by rw [← hw0]; exact (bel_alloc _ _).alloc (by simp) _
  have c0 : w0.cell? ⟨w.heap.size, 0, none⟩ = some (.int .i64 q) := by rw [← hw0]; simp
  have c1 : w0.cell? ⟨w.heap.size, 1, none⟩ = some (.int .i64 bl) := by rw [← hw0]; simp
  have c2 : w0.cell? ⟨w.heap.size, 2, none⟩ = some (.int .i64 inp) := by rw [← hw0]; simp
  have c3 : w0.cell? ⟨w.heap.size, 3, none⟩ = some (.slice ao n cap) := by rw [← hw0]; simp
  have hz0 : zeroP w0 (w.heap.size + 1) := by
    have h := heap_alloc_new (w.alloc (.cells #[.int .i64 q, .int .i64 bl, .int .i64 inp, .slice ao n cap] 24)) (.cells #[.int .i64 0, .slice none 0 0, .slice none 0 0] 28)
    rw [World.size_alloc, hw0] at h
    exact h
  rw [hw0]
  have HB0 := hid hb0
  have HZ0 := hid hz0
  clear hw0 hb0 hz0
  go_wp2_with (go_at_call 24; refine (HCk.out _ (HM.out.below HB0.out)).mono ?_; rintro e w1 ⟨rfl, hb1⟩; have HB1 := hid (bel_step HB0.out hb1); obtain ⟨⟨z0, z1, z2⟩, g0, g1, g2⟩ := (zeroP_below HZ0.out hb1).c; clear hb1)
  refine bodyPost_ret (v := .tuple #[.agg #[.int .i64 0, .slice none 0 0, .slice none 0 0], .int .i64 1]) ?_ rfl ⟨rfl, ?_⟩
  · simp [results, Tryz.results8, go_sem, z0, z1, z2]
  · exact ((HB1.out.setCell (by show w.heap.size ≤ w.heap.size + 1; omega) _).setCell (by show w.heap.size ≤ w.heap.size + 1; omega) _).setCell (by show w.heap.size ≤ w.heap.size + 1; omega) _
theorem line_cat (a d1 d2 wd d3 : ByteArray) : ((((((((a ++ d1) ++ (⟨#[32]⟩ : ByteArray)) ++ d2) ++ (⟨#[32]⟩ : ByteArray)) ++ wd) ++ (⟨#[32]⟩ : ByteArray)) ++ d3) ++ (⟨#[10]⟩ : ByteArray)) = a ++ ((((((d1 ++ spc) ++ d2) ++ spc) ++ wd) ++ spc) ++ d3 ++ eol) := by
  apply ByteArray.ext
  simp only [ByteArray.data_append, spc, eol, Array.append_assoc]
set_option maxRecDepth 100000 in
set_option maxHeartbeats 4000000 in
theorem rtable_any (q bl : Int) (I : Nat) (v : Value) (rows : List (List Cl)) (w : World) (hM : MC w v rows) (hE : eErr q bl (I : Int) rows = 0) (hV : Small q bl (I : Int) rows) :
    Calls Tryz.prog 10 #[.agg #[.int .i64 q, .int .i64 bl, .int .i64 (I : Int), v]] w fun e w' => e = .returned (.tuple #[.string (catL (linesTo rows I (rows.length * I))), .int .i64 0]) ∧ Below w.heap.size w w' := by
  have HM := hid hM
  have HV := hid hV
  have HCk := hid (fun X h => rechk_any q bl (I : Int) v rows X h)
  rw [hE] at HCk
  obtain ⟨ao, cap, rfl, hc1, hc2⟩ := hM.slice
  have hn6 := hV.n6
  have hi6 := hV.i6
  clear hM hV hE
  go_enter Tryz.func10, Tryz.ntmps10
  go_upto_region 1 with fail
  obtain ⟨w0, hw0⟩ : ∃ w0, w.alloc (.cells #[.int .i64 q, .int .i64 bl, .int .i64 (I : Int), .slice ao rows.length cap] 24) = w0 := ⟨_, rfl⟩
  obtain ⟨hb0, c0, c1, c2, c3⟩ := boxedE hw0
  rw [hw0]
  have HB0 := hid hb0
  clear hw0 hb0
  go_upto_region 4 with (go_at_call 24; refine (HCk.out _ (HM.out.below HB0.out)).mono ?_; rintro e w1 ⟨rfl, hb1⟩; have c2 := keeps hb1 c2; have c3 := keeps hb1 c3; have HB1 := hid (bel_step HB0.out hb1); clear hb1)
  clear c0 c1 HCk
  have HC2 := hid c2
  have HC3 := hid c3
  obtain ⟨n, hn⟩ : ∃ n, rows.length = n := ⟨_, rfl⟩
  rw [hn] at HC3 hn6 hc1 c3 ⊢
  have HN := hid hn
  clear hn c2 c3
  go_upto_region 5 with fail
  go_loopw [4, 5] (fun s i wr => ∃ k : Nat, k ≤ n ∧ i = .int .i64 (k : Int) ∧ s = .string (catL (linesTo rows I (k * I))) ∧ Hid (Below w1.heap.size w1 wr)) (fun _ i _ => n - (intOf i).toNat)
  case atStart => exact ⟨0, Nat.zero_le _, rfl, by rw [Nat.zero_mul]; rfl, hid (Below.refl _ _)⟩
  case round =>
    obtain ⟨k, hk, rfl, rfl, HBk⟩ := hrel
    rename World => wm
    have c3 := keeps HBk.out HC3.out
    by_cases hlt : k < n
    · obtain ⟨row, hrow⟩ := some_of_lt (show k < rows.length by rw [HN.out]; exact hlt)
      have HR := hid hrow
      have hrl : row.length = I := by have := HV.out.v.len row (List.mem_of_getElem? hrow); omega
      have HRl := hid hrl
      have hkI : (k : Int) < (n : Int) := by omega
      clear hrow hrl
      go_upto_region 8 with fail
      clear c3
      go_loopw [4, 6] (fun s i wr => ∃ j : Nat, j ≤ I ∧ i = .int .i64 (j : Int) ∧ s = .string (catL (linesTo rows I (k * I + j))) ∧ Hid (Below w1.heap.size w1 wr)) (fun _ i _ => I - (intOf i).toNat)
      case atStart => exact ⟨0, Nat.zero_le _, rfl, rfl, HBk⟩
      case round =>
        clear HBk
        obtain ⟨j, hj, rfl, rfl, HBj⟩ := hrel
        rename World => wn
        have c2 := keeps HBj.out HC2.out
        by_cases hlj : j < I
        · obtain ⟨x, hx⟩ := some_of_lt (show j < row.length by rw [HRl.out]; exact hlj)
          obtain ⟨br, o, r, c, rfl, n1, hS⟩ := HM.out.row HR.out
          have c3 := keeps HBj.out HC3.out
          have n1 := keeps HBj.out (keeps HB1.out n1)
          obtain ⟨b2, o2, rfl, m1, m2⟩ := (hS.below (bel_step HB1.out HBj.out)).cl hx
          obtain ⟨hsz, _, hst0, hst, hk10, hj10⟩ := HV.out.line HR.out hx
          have HLi := hid (show linesTo rows I (k * I + (j + 1)) = linesTo rows I (k * I + j) ++ [lineC k j x] by rw [← Nat.add_assoc, linesTo_succ, lineM_at hlj HR.out hx])
          have hSm := HV.out.text (m := k * I + j) (by have h9 := Nat.mul_le_mul_right I (show k + 1 ≤ rows.length by rw [HN.out]; omega); rw [Nat.succ_mul] at h9; omega)
          obtain ⟨st, hste⟩ : ∃ st : Nat, x.st = (st : Int) := ⟨x.st.toNat, by omega⟩
          have hD : ∀ k : Nat, decB (k : Int) = ⟨(Lib.decDigits k).toArray⟩ := fun k => by unfold decB; rw [Int.toNat_natCast]
          have HD1 := hid (fun X => decimal_any k X (by omega))
          have HD2 := hid (fun X => decimal_any j X (by omega))
          have HD3 := hid (fun X => decimal_any st X (by omega))
          have HFin := hid (show catL (linesTo rows I (k * I + (j + 1))) = (((((((catL (linesTo rows I (k * I + j)) ++ decB k) ++ (⟨#[32]⟩ : ByteArray)) ++ decB j) ++ (⟨#[32]⟩ : ByteArray)) ++ x.word) ++ (⟨#[32]⟩ : ByteArray)) ++ decB x.st) ++ (⟨#[10]⟩ : ByteArray) by
            rw [HLi.out, catL_snoc, line_cat]; rfl)
          have hz1 := (decB_low (k := (k : Int)) (by omega) (by omega)).1
          have hz2 := (decB_low (k := (j : Int)) (by omega) (by omega)).1
          have hz3 := (decB_low hst0 hst).1
          have hz4 : x.word.size ≤ 60 := by
            have h9 := hsz
            unfold lineC at h9
            simp only [ByteArray.size_append] at h9
            omega
          rw [← hD] at HD1 HD2 HD3
          rw [hste] at m1 HFin hz3
          have hrI : (j : Int) < (row.length : Int) := by rw [HRl.out]; omega
          have hjI : (j : Int) < (I : Int) := by omega
          have hkn : (k : Int) < (n : Int) := by omega
          clear hx hS hD hsz hst0 hst hste
          generalize catL (linesTo rows I (k * I + j)) = t0 at *
          generalize decB (k : Int) = d1 at *
          generalize decB (j : Int) = d2 at *
          generalize decB (st : Int) = d3 at *
          generalize x.word = wd at *
          have s1 : (⟨#[32]⟩ : ByteArray).size = 1 := rfl
          have s2 : (⟨#[10]⟩ : ByteArray).size = 1 := rfl
          have k1 := str_cat t0 d1 (by omega)
          have z1 : (t0 ++ d1).size ≤ 3000 := by rw [ByteArray.size_append]; omega
          generalize t0 ++ d1 = t1 at *
          have k2 := str_cat t1 ⟨#[32]⟩ (by omega)
          have z2 : (t1 ++ (⟨#[32]⟩ : ByteArray)).size ≤ 3001 := by rw [ByteArray.size_append]; omega
          generalize t1 ++ (⟨#[32]⟩ : ByteArray) = t2 at *
          have k3 := str_cat t2 d2 (by omega)
          have z3 : (t2 ++ d2).size ≤ 3002 := by rw [ByteArray.size_append]; omega
          generalize t2 ++ d2 = t3 at *
          have k4 := str_cat t3 ⟨#[32]⟩ (by omega)
          have z4 : (t3 ++ (⟨#[32]⟩ : ByteArray)).size ≤ 3003 := by rw [ByteArray.size_append]; omega
          generalize t3 ++ (⟨#[32]⟩ : ByteArray) = t4 at *
          have k5 := str_cat t4 wd (by omega)
          have z5 : (t4 ++ wd).size ≤ 3100 := by rw [ByteArray.size_append]; omega
          generalize t4 ++ wd = t5 at *
          have k6 := str_cat t5 ⟨#[32]⟩ (by omega)
          have z6 : (t5 ++ (⟨#[32]⟩ : ByteArray)).size ≤ 3101 := by rw [ByteArray.size_append]; omega
          generalize t5 ++ (⟨#[32]⟩ : ByteArray) = t6 at *
          have k7 := str_cat t6 d3 (by omega)
          have z7 : (t6 ++ d3).size ≤ 3102 := by rw [ByteArray.size_append]; omega
          generalize t6 ++ d3 = t7 at *
          have k8 := str_cat t7 ⟨#[10]⟩ (by omega)
          generalize t7 ++ (⟨#[10]⟩ : ByteArray) = t8 at *
          clear z1 z2 z3 z4 z5 z6 z7 hz1 hz2 hz3 hz4 hSm s1 s2
          go_upto_region 11 with fail
          obtain ⟨wx, hwx⟩ : ∃ wx, wn.alloc (.cells #[.int .i64 (st : Int), .string wd] 45) = wx := ⟨_, rfl⟩
          obtain ⟨hbx, y0, y1⟩ := boxedC hwx
          rw [hwx]
          have HBx := hid (bel_step HBj.out hbx)
          clear hwx hbx m1 m2 n1 c2 c3
          generalize wn.heap.size = bx at *
          have HDx := hid (show Below wx.heap.size wx wx.drew from below_drewN (Below.refl _ _) 1)
          go_region_held3 (fun w' => w'.cell? ⟨bx, 0, none⟩ = some (.int .i64 (st : Int)) ∧ w'.cell? ⟨bx, 1, none⟩ = some (.string wd))
            (first | exact ⟨y0, y1⟩ | go_keep)
            (first
              | (have _g := HM2.out; clear _g; go_at_call 34; refine (HD3.out _).mono ?_; rintro e w7 ⟨rfl, hb7⟩; have HB7 := hid (bel_step HB6.out hb7); have y0 := keeps hb7 y0; have y1 := keeps hb7 y1; clear hb7)
              | (have _g := HM1.out; clear _g; go_at_call 34; refine (HD2.out _).mono ?_; rintro e w6 ⟨rfl, hb6⟩; have HM2 := hid True.intro; have HB6 := hid (bel_step HB5.out hb6); have y0 := keeps hb6 y0; have y1 := keeps hb6 y1; clear hb6)
              | (go_at_call 34; refine (HD1.out _).mono ?_; rintro e w5 ⟨rfl, hb5⟩; have HM1 := hid True.intro; have hb5 := HDx.out.trans (hb5.mono HDx.out.size); have HB5 := hid (bel_step HBx.out hb5); have y0 := keeps hb5 y0; have y1 := keeps hb5 y1; clear hb5))
          all_goals
            go_wp2
            case roundEnd => exact ⟨⟨j + 1, by omega, by go_num, by rw [HFin.out], HB7⟩, by simp [intOf]; omega⟩
        · obtain rfl : j = I := by omega
          have HE := hid (show k * j + j = (k + 1) * j by rw [Nat.succ_mul])
          rw [HE.out]
          go_wp2
          case roundEnd => exact ⟨⟨k + 1, by omega, by go_num, rfl, HBj⟩, by simp [intOf]; omega⟩
    · obtain rfl : k = n := by omega
      have hSm := HV.out.text (m := k * I) (by rw [HN.out]; exact Nat.le_refl _)
      have hlen : ¬ (65536 : Int) < ((catL (linesTo rows I (k * I))).size : Int) := by omega
      clear hSm
      have HF := hid (show catL (linesTo rows I (k * I)) = catL (linesTo rows I (rows.length * I)) by rw [HN.out])
      generalize catL (linesTo rows I (k * I)) = tx at *
      go_wp2
      go_ret2
      exact ⟨by rw [← HF.out]; rfl, bel_step HB1.out HBk.out⟩
end Go.Proofs.YtcdfghogmdhfcaaGreatDoor
