/-
  grooveref25.Check: why an encoder is not valid.
  encoder.Check: why an encoder is not valid.
  grooveref25.Great: whether an encoder is larger than the statements examine.
  Conditions: No condition beyond the rows lying in a slice. No condition beyond the rows lying in a slice. No condition beyond the rows lying in a slice.
-/
import Derived.Test.YtcdfghogmdhfcaaGreatDoorMg2
import Derived.Test.YtcdfghogmdhfcaaGreatDoorMg13
import Derived.Deep.QuietTactic
import Derived.Deep.Slices
namespace Go.Proofs.YtcdfghogmdhfcaaGreatDoor
open Go.RowKit Go.Deep
set_option linter.unusedVariables false

theorem eErr_cell {q bl inp : Int} {rows : List (List Cl)} {n k j : Nat} {row : List Cl} {x : Cl} (hE : eErr q bl inp rows = rowsErr q bl inp n (rows.drop k)) (hrow : rows[k]? = some row) (hlen : (row.length : Int) = inp) (hc : cellsErr q bl n row = cellsErr q bl n (row.drop j)) (hx : row[j]? = some x) (hbad : ¬ cellErr q bl n x = 0) : eErr q bl inp rows = cellErr q bl n x := by
  have h1 : cellsErr q bl n row = cellErr q bl n x := by rw [hc, drop_cons hx, cellsErr_bad hbad]
  have h2 : rowErr q bl inp n row = cellErr q bl n x := by rw [rowErr, if_neg (by simp [hlen]), h1]
  rw [hE, drop_cons hrow, rowsErr_bad (by rw [h2]; exact hbad), h2]
theorem eErr_row {q bl inp : Int} {rows : List (List Cl)} {n k : Nat} {row : List Cl} (hE : eErr q bl inp rows = rowsErr q bl inp n (rows.drop k)) (hrow : rows[k]? = some row) (hlen : ¬ (row.length : Int) = inp) : eErr q bl inp rows = 11 := by
  have h2 : rowErr q bl inp n row = 11 := by rw [rowErr, if_pos hlen]
  rw [hE, drop_cons hrow, rowsErr_bad (by rw [h2]; decide), h2]
theorem eErr_next {q bl inp : Int} {rows : List (List Cl)} {n k : Nat} {row : List Cl} (hE : eErr q bl inp rows = rowsErr q bl inp n (rows.drop k)) (hrow : rows[k]? = some row) (hlen : (row.length : Int) = inp) (hc : cellsErr q bl n row = 0) : eErr q bl inp rows = rowsErr q bl inp n (rows.drop (k + 1)) := by
  have h2 : rowErr q bl inp n row = 0 := by rw [rowErr, if_neg (by simp [hlen]), hc]
  rw [hE, drop_cons hrow, rowsErr_good h2]
theorem cells_next {q bl : Int} {n j : Nat} {row : List Cl} {x : Cl} (hc : cellsErr q bl n row = cellsErr q bl n (row.drop j)) (hx : row[j]? = some x) (hg : cellErr q bl n x = 0) : cellsErr q bl n row = cellsErr q bl n (row.drop (j + 1)) := by
  rw [hc, drop_cons hx, cellsErr_good hg]
theorem boxedE {w w0 : World} {q bl inp : Int} {v : Value} (h : w.alloc (.cells #[.int .i64 q, .int .i64 bl, .int .i64 inp, v] 24) = w0) : Below w.heap.size w w0 ∧ w0.cell? ⟨w.heap.size, 0, none⟩ = some (.int .i64 q) ∧ w0.cell? ⟨w.heap.size, 1, none⟩ = some (.int .i64 bl) ∧ w0.cell? ⟨w.heap.size, 2, none⟩ = some (.int .i64 inp) ∧ w0.cell? ⟨w.heap.size, 3, none⟩ = some v := by
  subst h
  exact ⟨bel_alloc _ _, by simp, by simp, by simp, by simp⟩
theorem boxedC {w w0 : World} {x : Int} {s : ByteArray} (h : w.alloc (.cells #[.int .i64 x, .string s] 45) = w0) : Below w.heap.size w w0 ∧ w0.cell? ⟨w.heap.size, 0, none⟩ = some (.int .i64 x) ∧ w0.cell? ⟨w.heap.size, 1, none⟩ = some (.string s) := by
  subst h
  exact ⟨bel_alloc _ _, by simp, by simp⟩
set_option maxRecDepth 100000 in
set_option maxHeartbeats 4000000 in
theorem rechk_any (q bl inp : Int) (v : Value) (rows : List (List Cl)) (w : World) (hM : MC w v rows) :
    Calls Tryz.prog 24 #[.agg #[.int .i64 q, .int .i64 bl, .int .i64 inp, v]] w fun e w' => e = .returned (.int .i64 (eErr q bl inp rows)) ∧ Below w.heap.size w w' := by
  have HM := hid hM
  obtain ⟨ao, cap, rfl, hc1, hc2⟩ := hM.slice
  clear hM
  go_enter Tryz.func24, Tryz.ntmps24
  go_upto_region 1 with fail
  obtain ⟨w0, hw0⟩ : ∃ w0, w.alloc (.cells #[.int .i64 q, .int .i64 bl, .int .i64 inp, .slice ao rows.length cap] 24) = w0 := ⟨_, rfl⟩
  obtain ⟨hb0, c0, c1, c2, c3⟩ := boxedE hw0
  rw [hw0]
  have HB0 := hid hb0
  have HE0 := hid (show ∀ E, eErr q bl inp rows = E → eErr q bl inp rows = E from fun E h => h)
  clear hw0 hb0
  by_cases a1 : q < 1
  · have HE := hid (show eErr q bl inp rows = 12 by rw [eErr, if_pos (.inl a1)])
    go_wp2
    go_ret
    exact ⟨ret_int HE.out.symm, HB0.out⟩
  by_cases a2 : 16 < q
  · have HE := hid (show eErr q bl inp rows = 12 by rw [eErr, if_pos (.inr a2)])
    go_wp2
    go_ret
    exact ⟨ret_int HE.out.symm, HB0.out⟩
  by_cases a3 : bl < 1
  · have HE := hid (show eErr q bl inp rows = 2 by rw [eErr, if_neg (by omega), if_pos (.inl a3)])
    go_wp2
    go_ret
    exact ⟨ret_int HE.out.symm, HB0.out⟩
  by_cases a4 : 16 < bl
  · have HE := hid (show eErr q bl inp rows = 2 by rw [eErr, if_neg (by omega), if_pos (.inr (.inl a4))])
    go_wp2
    go_ret
    exact ⟨ret_int HE.out.symm, HB0.out⟩
  by_cases a5 : inp < 1
  · have HE := hid (show eErr q bl inp rows = 2 by rw [eErr, if_neg (by omega), if_pos (.inr (.inr (.inl a5)))])
    go_wp2
    go_ret
    exact ⟨ret_int HE.out.symm, HB0.out⟩
  by_cases a6 : 256 < inp
  · have HE := hid (show eErr q bl inp rows = 2 by rw [eErr, if_neg (by omega), if_pos (.inr (.inr (.inr a6)))])
    go_wp2
    go_ret
    exact ⟨ret_int HE.out.symm, HB0.out⟩
  have HEq := hid (show eErr q bl inp rows = if rows.length = 0 then 5 else if 64 < rows.length then 4 else rowsErr q bl inp rows.length rows by rw [eErr, if_neg (by omega), if_neg (by omega)])
  generalize hn : rows.length = n at *
  have HN := hid hn
  clear hn HE0
  by_cases a7 : n = 0
  · have HE := hid (show eErr q bl inp rows = 5 by rw [HEq.out, if_pos a7])
    have a7' : ((n : Int) == 0) = true := by simp [a7]
    clear a7
    go_wp2
    go_ret
    exact ⟨ret_int HE.out.symm, HB0.out⟩
  have a7' : ((n : Int) == 0) = false := by rw [beq_eq_false_iff_ne]; omega
  by_cases a8 : 64 < n
  · have HE := hid (show eErr q bl inp rows = 4 by rw [HEq.out, if_neg a7, if_pos a8])
    clear a7
    go_wp2
    go_ret
    exact ⟨ret_int HE.out.symm, HB0.out⟩
  have HE := hid (show eErr q bl inp rows = rowsErr q bl inp n (rows.drop 0) by rw [HEq.out, if_neg a7, if_neg a8, List.drop_zero])
  clear HEq a7
  go_wp2_with fail
  have HA6 := hid (show inp ≤ 256 by omega)
  have HK0 := hid (And.intro c0 (And.intro c1 (And.intro c2 c3)))
  clear a1 a2 a3 a4 a5 a6 a7' c0 c1 c2 c3
  go_loopw [3] (fun i wr => ∃ k : Nat, k ≤ n ∧ i = .int .i64 (k : Int) ∧ Below w0.heap.size w0 wr ∧ Hid (eErr q bl inp rows = rowsErr q bl inp n (rows.drop k))) (fun i _ => n - (intOf i).toNat)
  case atStart => exact ⟨0, Nat.zero_le _, rfl, Below.refl _ _, HE⟩
  case round =>
    obtain ⟨k, hk, rfl, hb, HK⟩ := hrel
    have HB := hid hb
    have c0 := keeps hb HK0.out.1
    have c1 := keeps hb HK0.out.2.1
    have c2 := keeps hb HK0.out.2.2.1
    have c3 := keeps hb HK0.out.2.2.2
    clear hb
    rename World => wm
    by_cases hlt : k < n
    · obtain ⟨row, hrow⟩ := some_of_lt (show k < rows.length by rw [HN.out]; exact hlt)
      obtain ⟨b, o, r, c, rfl, n1, hS⟩ := (HM.out.below (HB0.out.trans (HB.out.mono HB0.out.size))).row hrow
      have HR := hid hrow
      have HS := hid hS
      clear hrow hS
      by_cases hlen : (row.length : Int) = inp
      · have hlen2 : ((row.length : Int) != inp) = false := by simp [hlen]
        have HLen := hid hlen
        have HRl := hid (show row.length ≤ 256 by have := HA6.out; omega)
        clear hlen
        go_upto_region 12 with fail
        go_quiet (fail)
        have hbq : Below wm.heap.size wm (wm.drewN nq) := below_drewN (Below.refl _ _) nq
        have c0 := keeps hbq c0
        have c1 := keeps hbq c1
        have c3 := keeps hbq c3
        have n1 := keeps hbq n1
        have HSq := hid (HS.out.below hbq)
        have HBq := hid (HB.out.trans (hbq.mono HB.out.size))
        clear hbq HB HS
        generalize wm.drewN nq = wq at *
        have HB := HBq
        have HS := HSq
        clear HBq HSq
        go_wp2_with fail
        have HC := hid (And.intro c0 (And.intro c1 (And.intro c3 n1)))
        clear c0 c1 c2 c3 n1 hlen2
        go_loopw [4] (fun i wr => ∃ j : Nat, j ≤ row.length ∧ i = .int .i64 (j : Int) ∧ Below wq.heap.size wq wr ∧ Hid (cellsErr q bl n row = cellsErr q bl n (row.drop j))) (fun i _ => row.length - (intOf i).toNat)
        case atStart => exact ⟨0, Nat.zero_le _, rfl, Below.refl _ _, hid (by rw [List.drop_zero])⟩
        case round =>
          obtain ⟨j, hj, rfl, hb2, HJ⟩ := hrel
          have HB2 := hid hb2
          have c0 := keeps hb2 HC.out.1
          have c1 := keeps hb2 HC.out.2.1
          have c3 := keeps hb2 HC.out.2.2.1
          have n1 := keeps hb2 HC.out.2.2.2
          clear hb2
          rename World => wn
          have HBn := hid (HB.out.trans (HB2.out.mono HB.out.size))
          by_cases hlj : j < row.length
          · obtain ⟨x, hx⟩ := some_of_lt hlj
            have hrl := HRl.out
            obtain ⟨b2, o2, rfl, m1, m2⟩ := (HS.out.below HB2.out).cl hx
            have HX := hid hx
            clear hx
            go_upto_region 18 with fail
            obtain ⟨wx, hwx⟩ : ∃ wx, wn.alloc (.cells #[.int .i64 x.st, .string x.word] 45) = wx := ⟨_, rfl⟩
            obtain ⟨hbx, x0, x1⟩ := boxedC hwx
            rw [hwx]
            have HBx := hid (HB2.out.trans (hbx.mono HB2.out.size))
            have c0 := keeps hbx c0
            have c1 := keeps hbx c1
            have c3 := keeps hbx c3
            clear hwx hbx m1 m2 n1
            have HBe := hid (HB0.out.trans ((HB.out.trans (HBx.out.mono HB.out.size)).mono HB0.out.size))
            have HBad := hid (fun h => eErr_cell HK.out HR.out HLen.out HJ.out HX.out h)
            by_cases g1 : x.st < 0
            · have HE := hid (show eErr q bl inp rows = 25 by
                have h : cellErr q bl n x = 25 := by rw [cellErr, if_pos (.inl g1)]
                rw [HBad.out (by rw [h]; decide), h])
              go_wp2
              go_ret
              exact ⟨ret_int HE.out.symm, HBe.out⟩
            by_cases g2 : (n : Int) ≤ x.st
            · have HE := hid (show eErr q bl inp rows = 25 by
                have h : cellErr q bl n x = 25 := by rw [cellErr, if_pos (.inr g2)]
                rw [HBad.out (by rw [h]; decide), h])
              go_wp2
              go_ret
              exact ⟨ret_int HE.out.symm, HBe.out⟩
            by_cases g3 : (x.word.size : Int) = bl
            · have g3' : ((x.word.size : Int) != bl) = false := by simp [g3]
              have HW := hid (fun X => rwcheck_any q x.word X)
              by_cases g4 : wordErr q x.word = 0
              · have HJ2 := hid (cells_next HJ.out HX.out (show cellErr q bl n x = 0 by rw [cellErr, if_neg (by omega), if_neg (by simp [g3, g4])]))
                rw [g4] at HW
                clear g3 g4
                go_wp2_with (go_at_call 56; refine (HW.out _).mono ?_; rintro e w5 ⟨rfl, rfl⟩)
                go_roundw
                case rel => exact ⟨j + 1, by omega, by go_num, HBx.out, HJ2⟩
                case measure => simp [intOf]; omega
              · have HE := hid (show eErr q bl inp rows = 13 by
                  have h : cellErr q bl n x = 13 := by rw [cellErr, if_neg (by omega), if_pos (.inr g4)]
                  rw [HBad.out (by rw [h]; decide), h])
                have g4' : (wordErr q x.word != 0) = true := by simp [g4]
                clear g3 g4
                generalize wordErr q x.word = E at *
                go_wp2_with (go_at_call 56; refine (HW.out _).mono ?_; rintro e w5 ⟨rfl, rfl⟩)
                go_ret
                exact ⟨ret_int HE.out.symm, HBe.out⟩
            · have HE := hid (show eErr q bl inp rows = 13 by
                have h : cellErr q bl n x = 13 := by rw [cellErr, if_neg (by omega), if_pos (.inl g3)]
                rw [HBad.out (by rw [h]; decide), h])
              have g3' : ((x.word.size : Int) != bl) = true := by simp [g3]
              clear g3
              go_wp2
              go_ret
              exact ⟨ret_int HE.out.symm, HBe.out⟩
          · obtain rfl : j = row.length := by omega
            have HN2 := hid (eErr_next HK.out HR.out HLen.out (by rw [HJ.out, drop_all (Nat.le_refl _)]; rfl))
            go_wp2
            go_roundw
            case rel => exact ⟨k + 1, by omega, by go_num, HBn.out, HN2⟩
            case measure => simp [intOf]; omega
      · have HE := hid (eErr_row HK.out HR.out hlen)
        have hlen2 : ((row.length : Int) != inp) = true := by simp [hlen]
        have HBe := hid (HB0.out.trans (HB.out.mono HB0.out.size))
        clear hlen
        go_upto_region 12 with fail
        go_quiet (fail)
        go_wp2
        go_ret
        exact ⟨ret_int HE.out.symm, below_drewN HBe.out _⟩
    · obtain rfl : k = n := by omega
      have HE := hid (show eErr q bl inp rows = 0 by rw [HK.out, drop_all (Nat.le_of_eq HN.out)]; rfl)
      go_wp2
      go_ret
      exact ⟨ret_int HE.out.symm, HB0.out.trans (HB.out.mono HB0.out.size)⟩
end Go.Proofs.YtcdfghogmdhfcaaGreatDoor

namespace Go.Proofs.YtcdfghogmdhfcaaGreatDoor
open Go.RowKit Go.Deep
set_option linter.unusedVariables false

set_option maxRecDepth 100000 in
set_option maxHeartbeats 4000000 in
theorem echk_any (q bl inp : Int) (v : Value) (rows : List (List Cl)) (w : World) (hM : MC w v rows) :
    Calls Tryz.prog 19 #[.agg #[.int .i64 q, .int .i64 bl, .int .i64 inp, v]] w fun e w' => e = .returned (.int .i64 (eErr q bl inp rows)) ∧ Below w.heap.size w w' := by
  have HM := hid hM
  obtain ⟨ao, cap, rfl, hc1, hc2⟩ := hM.slice
  clear hM
  go_enter Tryz.func19, Tryz.ntmps19
  go_upto_region 1 with fail
  obtain ⟨w0, hw0⟩ : ∃ w0, w.alloc (.cells #[.int .i64 q, .int .i64 bl, .int .i64 inp, .slice ao rows.length cap] 24) = w0 := ⟨_, rfl⟩
  obtain ⟨hb0, c0, c1, c2, c3⟩ := boxedE hw0
  rw [hw0]
  have HB0 := hid hb0
  have HE0 := hid (show ∀ E, eErr q bl inp rows = E → eErr q bl inp rows = E from fun E h => h)
  clear hw0 hb0
  by_cases a1 : q < 1
  · have HE := hid (show eErr q bl inp rows = 12 by rw [eErr, if_pos (.inl a1)])
    go_wp2
    go_ret
    exact ⟨ret_int HE.out.symm, HB0.out⟩
  by_cases a2 : 16 < q
  · have HE := hid (show eErr q bl inp rows = 12 by rw [eErr, if_pos (.inr a2)])
    go_wp2
    go_ret
    exact ⟨ret_int HE.out.symm, HB0.out⟩
  by_cases a3 : bl < 1
  · have HE := hid (show eErr q bl inp rows = 2 by rw [eErr, if_neg (by omega), if_pos (.inl a3)])
    go_wp2
    go_ret
    exact ⟨ret_int HE.out.symm, HB0.out⟩
  by_cases a4 : 16 < bl
  · have HE := hid (show eErr q bl inp rows = 2 by rw [eErr, if_neg (by omega), if_pos (.inr (.inl a4))])
    go_wp2
    go_ret
    exact ⟨ret_int HE.out.symm, HB0.out⟩
  by_cases a5 : inp < 1
  · have HE := hid (show eErr q bl inp rows = 2 by rw [eErr, if_neg (by omega), if_pos (.inr (.inr (.inl a5)))])
    go_wp2
    go_ret
    exact ⟨ret_int HE.out.symm, HB0.out⟩
  by_cases a6 : 256 < inp
  · have HE := hid (show eErr q bl inp rows = 2 by rw [eErr, if_neg (by omega), if_pos (.inr (.inr (.inr a6)))])
    go_wp2
    go_ret
    exact ⟨ret_int HE.out.symm, HB0.out⟩
  have HEq := hid (show eErr q bl inp rows = if rows.length = 0 then 5 else if 64 < rows.length then 4 else rowsErr q bl inp rows.length rows by rw [eErr, if_neg (by omega), if_neg (by omega)])
  generalize hn : rows.length = n at *
  have HN := hid hn
  clear hn HE0
  by_cases a7 : n = 0
  · have HE := hid (show eErr q bl inp rows = 5 by rw [HEq.out, if_pos a7])
    have a7' : ((n : Int) == 0) = true := by simp [a7]
    clear a7
    go_wp2
    go_ret
    exact ⟨ret_int HE.out.symm, HB0.out⟩
  have a7' : ((n : Int) == 0) = false := by rw [beq_eq_false_iff_ne]; omega
  by_cases a8 : 64 < n
  · have HE := hid (show eErr q bl inp rows = 4 by rw [HEq.out, if_neg a7, if_pos a8])
    clear a7
    go_wp2
    go_ret
    exact ⟨ret_int HE.out.symm, HB0.out⟩
  have HE := hid (show eErr q bl inp rows = rowsErr q bl inp n (rows.drop 0) by rw [HEq.out, if_neg a7, if_neg a8, List.drop_zero])
  clear HEq a7
  go_wp2_with fail
  have HA6 := hid (show inp ≤ 256 by omega)
  have HK0 := hid (And.intro c0 (And.intro c1 (And.intro c2 c3)))
  clear a1 a2 a3 a4 a5 a6 a7' c0 c1 c2 c3
  go_loopw [48] (fun i wr => ∃ k : Nat, k ≤ n ∧ i = .int .i64 (k : Int) ∧ Below w0.heap.size w0 wr ∧ Hid (eErr q bl inp rows = rowsErr q bl inp n (rows.drop k))) (fun i _ => n - (intOf i).toNat)
  case atStart => exact ⟨0, Nat.zero_le _, rfl, Below.refl _ _, HE⟩
  case round =>
    obtain ⟨k, hk, rfl, hb, HK⟩ := hrel
    have HB := hid hb
    have c0 := keeps hb HK0.out.1
    have c1 := keeps hb HK0.out.2.1
    have c2 := keeps hb HK0.out.2.2.1
    have c3 := keeps hb HK0.out.2.2.2
    clear hb
    rename World => wm
    by_cases hlt : k < n
    · obtain ⟨row, hrow⟩ := some_of_lt (show k < rows.length by rw [HN.out]; exact hlt)
      obtain ⟨b, o, r, c, rfl, n1, hS⟩ := (HM.out.below (HB0.out.trans (HB.out.mono HB0.out.size))).row hrow
      have HR := hid hrow
      have HS := hid hS
      clear hrow hS
      by_cases hlen : (row.length : Int) = inp
      · have hlen2 : ((row.length : Int) != inp) = false := by simp [hlen]
        have HLen := hid hlen
        have HRl := hid (show row.length ≤ 256 by have := HA6.out; omega)
        clear hlen
        go_wp2_with fail
        have HC := hid (And.intro c0 (And.intro c1 (And.intro c3 n1)))
        clear c0 c1 c2 c3 n1 hlen2
        go_loopw [59] (fun i wr => ∃ j : Nat, j ≤ row.length ∧ i = .int .i64 (j : Int) ∧ Below wm.heap.size wm wr ∧ Hid (cellsErr q bl n row = cellsErr q bl n (row.drop j))) (fun i _ => row.length - (intOf i).toNat)
        case atStart => exact ⟨0, Nat.zero_le _, rfl, Below.refl _ _, hid (by rw [List.drop_zero])⟩
        case round =>
          obtain ⟨j, hj, rfl, hb2, HJ⟩ := hrel
          have HB2 := hid hb2
          have c0 := keeps hb2 HC.out.1
          have c1 := keeps hb2 HC.out.2.1
          have c3 := keeps hb2 HC.out.2.2.1
          have n1 := keeps hb2 HC.out.2.2.2
          clear hb2
          rename World => wn
          have HBn := hid (HB.out.trans (HB2.out.mono HB.out.size))
          by_cases hlj : j < row.length
          · obtain ⟨x, hx⟩ := some_of_lt hlj
            have hrl := HRl.out
            obtain ⟨b2, o2, rfl, m1, m2⟩ := (HS.out.below HB2.out).cl hx
            have HX := hid hx
            clear hx
            go_upto_region 17 with fail
            obtain ⟨wx, hwx⟩ : ∃ wx, wn.alloc (.cells #[.int .i64 x.st, .string x.word] 45) = wx := ⟨_, rfl⟩
            obtain ⟨hbx, x0, x1⟩ := boxedC hwx
            rw [hwx]
            have HBx := hid (HB2.out.trans (hbx.mono HB2.out.size))
            have c0 := keeps hbx c0
            have c1 := keeps hbx c1
            have c3 := keeps hbx c3
            clear hwx hbx m1 m2 n1
            have HBe := hid (HB0.out.trans ((HB.out.trans (HBx.out.mono HB.out.size)).mono HB0.out.size))
            have HBad := hid (fun h => eErr_cell HK.out HR.out HLen.out HJ.out HX.out h)
            by_cases g1 : x.st < 0
            · have HE := hid (show eErr q bl inp rows = 25 by
                have h : cellErr q bl n x = 25 := by rw [cellErr, if_pos (.inl g1)]
                rw [HBad.out (by rw [h]; decide), h])
              go_wp2
              go_ret
              exact ⟨ret_int HE.out.symm, HBe.out⟩
            by_cases g2 : (n : Int) ≤ x.st
            · have HE := hid (show eErr q bl inp rows = 25 by
                have h : cellErr q bl n x = 25 := by rw [cellErr, if_pos (.inr g2)]
                rw [HBad.out (by rw [h]; decide), h])
              go_wp2
              go_ret
              exact ⟨ret_int HE.out.symm, HBe.out⟩
            by_cases g3 : (x.word.size : Int) = bl
            · have g3' : ((x.word.size : Int) != bl) = false := by simp [g3]
              have HW := hid (fun X => wcheck_any q x.word X)
              by_cases g4 : wordErr q x.word = 0
              · have HJ2 := hid (cells_next HJ.out HX.out (show cellErr q bl n x = 0 by rw [cellErr, if_neg (by omega), if_neg (by simp [g3, g4])]))
                rw [g4] at HW
                clear g3 g4
                go_wp2_with (go_at_call 48; refine (HW.out _).mono ?_; rintro e w5 ⟨rfl, hD5⟩)
                go_roundw
                case rel => exact ⟨j + 1, by omega, by go_num, HBx.out.trans ((hD5.below _).mono HBx.out.size), HJ2⟩
                case measure => simp [intOf]; omega
              · have HE := hid (show eErr q bl inp rows = 13 by
                  have h : cellErr q bl n x = 13 := by rw [cellErr, if_neg (by omega), if_pos (.inr g4)]
                  rw [HBad.out (by rw [h]; decide), h])
                have g4' : (wordErr q x.word != 0) = true := by simp [g4]
                clear g3 g4
                generalize wordErr q x.word = E at *
                go_wp2_with (go_at_call 48; refine (HW.out _).mono ?_; rintro e w5 ⟨rfl, hD5⟩)
                go_ret
                exact ⟨ret_int HE.out.symm, HBe.out.trans ((hD5.below _).mono HBe.out.size)⟩
            · have HE := hid (show eErr q bl inp rows = 13 by
                have h : cellErr q bl n x = 13 := by rw [cellErr, if_neg (by omega), if_pos (.inl g3)]
                rw [HBad.out (by rw [h]; decide), h])
              have g3' : ((x.word.size : Int) != bl) = true := by simp [g3]
              clear g3
              go_wp2
              go_ret
              exact ⟨ret_int HE.out.symm, HBe.out⟩
          · obtain rfl : j = row.length := by omega
            have HN2 := hid (eErr_next HK.out HR.out HLen.out (by rw [HJ.out, drop_all (Nat.le_refl _)]; rfl))
            go_wp2
            go_roundw
            case rel => exact ⟨k + 1, by omega, by go_num, HBn.out, HN2⟩
            case measure => simp [intOf]; omega
      · have HE := hid (eErr_row HK.out HR.out hlen)
        have hlen2 : ((row.length : Int) != inp) = true := by simp [hlen]
        have HBe := hid (HB0.out.trans (HB.out.mono HB0.out.size))
        clear hlen
        go_wp2
        go_ret
        exact ⟨ret_int HE.out.symm, HBe.out⟩
    · obtain rfl : k = n := by omega
      have HE := hid (show eErr q bl inp rows = 0 by rw [HK.out, drop_all (Nat.le_of_eq HN.out)]; rfl)
      go_wp2
      go_ret
      exact ⟨ret_int HE.out.symm, HB0.out.trans (HB.out.mono HB0.out.size)⟩
end Go.Proofs.YtcdfghogmdhfcaaGreatDoor

namespace Go.Proofs.YtcdfghogmdhfcaaGreatDoor
open Go.RowKit Go.Deep
set_option linter.unusedVariables false

def gCell (c : Cl) : Bool := decide (20 < c.word.size)
def gRow (r : List Cl) : Bool := decide (6 < r.length) || r.any gCell
def gEnc (rows : List (List Cl)) : Bool := (decide (6 < rows.length) && decide (rows.length ≤ 64)) || decide (65 < rows.length) || rows.any gRow
theorem gRow_no {r : List Cl} (h : gRow r = false) : r.length ≤ 6 ∧ r.any gCell = false := by
  simp only [gRow, Bool.or_eq_false_iff, decide_eq_false_iff_not] at h
  exact ⟨by omega, h.2⟩
theorem gEnc_valid {q bl inp : Int} {rows : List (List Cl)} (h : gEnc rows = false) (hv : EncV q bl inp rows) : rows.length ≤ 6 ∧ inp ≤ 6 := by
  simp only [gEnc, Bool.or_eq_false_iff, Bool.and_eq_false_iff, decide_eq_false_iff_not] at h
  have h1 := hv.r1
  have h2 := hv.r64
  refine ⟨by omega, ?_⟩
  obtain ⟨r, hr⟩ := some_of_lt (show 0 < rows.length by omega)
  have hm := List.mem_of_getElem? hr
  have h3 := hv.len r hm
  have h4 := (gRow_no (by have := List.any_eq_false.1 h.2 r hm; simpa using this)).1
  omega

set_option maxRecDepth 100000 in
set_option maxHeartbeats 4000000 in
theorem egreat_any (q bl inp : Int) (v : Value) (rows : List (List Cl)) (w : World) (hM : MC w v rows) :
    Calls Tryz.prog 4 #[.agg #[.int .i64 q, .int .i64 bl, .int .i64 inp, v]] w fun e w' => e = .returned (.bool (gEnc rows)) ∧ Below w.heap.size w w' := by
  have HM := hid hM
  obtain ⟨ao, cap, rfl, hc1, hc2⟩ := hM.slice
  clear hM
  go_enter Tryz.func4, Tryz.ntmps4
  go_upto_region 1 with fail
  obtain ⟨w0, hw0⟩ : ∃ w0, w.alloc (.cells #[.int .i64 q, .int .i64 bl, .int .i64 inp, .slice ao rows.length cap] 24) = w0 := ⟨_, rfl⟩
  obtain ⟨hb0, _, _, _, c3⟩ := boxedE hw0
  rw [hw0]
  have HB0 := hid hb0
  clear hw0 hb0
  have HEq := hid (show gEnc rows = ((decide (6 < rows.length) && decide (rows.length ≤ 64)) || decide (65 < rows.length) || rows.any gRow) from rfl)
  generalize hn : rows.length = n at *
  have HN := hid hn
  clear hn
  by_cases a1 : 6 < n ∧ n ≤ 64
  · have HE := hid (show gEnc rows = true by rw [HEq.out, decide_eq_true a1.1, decide_eq_true a1.2]; rfl)
    obtain ⟨a2, a3⟩ := a1
    go_wp2
    go_ret
    exact ⟨ret_bool HE.out.symm, HB0.out⟩
  by_cases a2 : 65 < n
  · have HE := hid (show gEnc rows = true by rw [HEq.out, decide_eq_true a2]; simp)
    clear a1
    have a3 : 6 < n := by omega
    have a4 : ¬ n ≤ 64 := by omega
    go_wp2
    go_ret
    exact ⟨ret_bool HE.out.symm, HB0.out⟩
  have HE := hid (show gEnc rows = (rows.drop 0).any gRow by
    rw [HEq.out, List.drop_zero]
    have h1 : (decide (6 < n) && decide (n ≤ 64)) = false := by rw [Bool.and_eq_false_iff, decide_eq_false_iff_not, decide_eq_false_iff_not]; omega
    rw [h1, decide_eq_false a2]; rfl)
  have hN65 : n ≤ 65 := by omega
  have HC := hid c3
  have key : ∀ g : Prop, (n ≤ 6 → g) → (n = 65 → g) → g := fun g h1 h2 => (show n ≤ 6 ∨ n = 65 by omega).elim h1 h2
  clear HEq c3
  apply key
  all_goals
    intro hkk
    have c3 := HC.out
    clear key a1
    first
      | (have b1 : ¬ 6 < n := by omega
         clear hkk)
      | (have b1 : 6 < n := by omega
         have b2 : ¬ n ≤ 64 := by omega
         clear hkk)
    go_wp2_with fail
    clear c3 a2 b1
    go_loopw [3] (fun i wr => ∃ k : Nat, k ≤ n ∧ i = .int .i64 (k : Int) ∧ Dr w0 wr ∧ Hid (gEnc rows = (rows.drop k).any gRow)) (fun i _ => n - (intOf i).toNat)
    case atStart => exact ⟨0, Nat.zero_le _, rfl, Dr.refl _, HE⟩
    case round =>
      obtain ⟨k, hk, rfl, hD, HK⟩ := hrel
      have HD := hid hD
      have c3 := keeps (hD.below _) HC.out
      have HB := hid (HB0.out.trans ((hD.below _).mono HB0.out.size))
      clear hD
      rename World => wm
      by_cases hlt : k < n
      · obtain ⟨row, hrow⟩ := some_of_lt (show k < rows.length by rw [HN.out]; exact hlt)
        obtain ⟨b, o, r, c, rfl, n1, hS⟩ := (HM.out.below HB.out).row hrow
        have HR := hid hrow
        have HS := hid hS
        clear hrow hS
        by_cases hlen : 6 < row.length
        · have HE := hid (show gEnc rows = true by rw [HK.out, drop_cons HR.out, List.any_cons, gRow, decide_eq_true hlen]; rfl)
          go_wp2
          go_ret
          exact ⟨ret_bool HE.out.symm, HB.out⟩
        · have HG := hid (show gRow row = row.any gCell by rw [gRow, decide_eq_false hlen]; rfl)
          have hl6 : row.length ≤ 6 := by omega
          have HLn := hid hlen
          go_wp2_with fail
          clear hlen
          have HCn := hid (And.intro c3 n1)
          clear c3 n1
          go_loopw [4] (fun i wr => ∃ j : Nat, j ≤ row.length ∧ i = .int .i64 (j : Int) ∧ Dr wm wr ∧ Hid (row.any gCell = (row.drop j).any gCell)) (fun i _ => row.length - (intOf i).toNat)
          case atStart => exact ⟨0, Nat.zero_le _, rfl, Dr.refl _, hid (by rw [List.drop_zero])⟩
          case round =>
            obtain ⟨j, hj, rfl, hD2, HJ⟩ := hrel
            have HD2 := hid hD2
            have c3 := keeps (hD2.below _) HCn.out.1
            have n1 := keeps (hD2.below _) HCn.out.2
            have HS2 := hid (HS.out.below (hD2.below _))
            clear hD2
            rename World => wn
            have HBn := hid (HB.out.trans ((HD2.out.below _).mono HB.out.size))
            by_cases hlj : j < row.length
            · obtain ⟨x, hx⟩ := some_of_lt hlj
              obtain ⟨b2, o2, rfl, m1, m2⟩ := HS2.out.cl hx
              have HX := hid hx
              clear hx m1
              by_cases g : 20 < x.word.size
              · have HE := hid (show gEnc rows = true by rw [HK.out, drop_cons HR.out, List.any_cons, HG.out, HJ.out, drop_cons HX.out, List.any_cons, gCell, decide_eq_true g]; rfl)
                go_wp2
                go_ret
                exact ⟨ret_bool HE.out.symm, HBn.out⟩
              · have HJ2 := hid (show row.any gCell = (row.drop (j + 1)).any gCell by rw [HJ.out, drop_cons HX.out, List.any_cons, gCell, decide_eq_false g]; rfl)
                go_wp2
                go_roundw
                case rel => exact ⟨j + 1, by omega, by go_num, HD2.out, HJ2⟩
                case measure => simp [intOf]; omega
            · obtain rfl : j = row.length := by omega
              have HN2 := hid (show gEnc rows = (rows.drop (k + 1)).any gRow by rw [HK.out, drop_cons HR.out, List.any_cons, HG.out, HJ.out, drop_all (Nat.le_refl _)]; rfl)
              go_wp2
              go_roundw
              case rel => exact ⟨k + 1, by omega, by go_num, HD.out.trans HD2.out, HN2⟩
              case measure => simp [intOf]; omega
      · obtain rfl : k = n := by omega
        have HE := hid (show gEnc rows = false by rw [HK.out, drop_all (Nat.le_of_eq HN.out)]; rfl)
        go_wp2
        go_ret
        exact ⟨ret_bool HE.out.symm, HB.out⟩
end Go.Proofs.YtcdfghogmdhfcaaGreatDoor
