/-
  groovelaw53.ProgramTables: a table has a line for each cell, which says what the encoder writes.
  No condition beyond the rows lying in a slice and the library's variable holding a number.
-/
import Derived.Test.YtpgkigjmjognjaaDoorEncTab
import Derived.Test.YtpgkigjmjognjaaDoorEncGreat
import Derived.Test.YtpgkigjmjognjaaDoorAwake53
import Derived.Deep.QuietTactic
namespace Go.Proofs.YtpgkigjmjognjaaDoor
open Go.RowKit Go.Deep
set_option linter.unusedVariables false

theorem maxLen_of {w : World} (h : w.ShapedOpen Tryd.prog) : ∃ m, w.cell? ⟨0, 0, none⟩ = some (.int .i64 m) := Tryd.laysM146.s1_3 w h
/-- A text of lines, split. -/
theorem split_any (ls : List ByteArray) (m : Int) (w : World) (hm : w.cell? ⟨0, 0, none⟩ = some (.int .i64 m)) (hl : ∀ l ∈ ls, l.size ≤ 60 ∧ (10 : UInt8) ∉ l.data.toList) (hn : ls.length ≤ 1000) :
    Calls Tryd.prog 8 #[.string (catL ls), .string ⟨#[10]⟩] w fun e w' => e = .returned (.slice (some ⟨w.heap.size, 0, none⟩) (ls.length + 1) (ls.length + 1)) ∧ w' = w.alloc (.cells ((ls ++ [(⟨#[]⟩ : ByteArray)]).map Value.string).toArray 9) := by
  have h1 := catL_size (ls := ls) fun l h => (hl l h).1
  refine (Tryd.strings_Split (catL ls) eol m w (by omega) hm (by decide)).mono ?_
  rintro e w' ⟨rfl, rfl⟩
  rw [count_cat fun l h => (hl l h).2, split_cat fun l h => (hl l h).2]
  exact ⟨rfl, rfl⟩
theorem add_str {a b : ByteArray} (h : a.size + b.size ≤ 1000) : ∀ X : World, (Op.stringOp .add a b).run Tryd.prog X = .ok (.string (a ++ b)) X := fun X => by
  unfold Op.stringOp
  rw [if_neg (by show ¬ ((a.size + b.size : Nat) : Int) > 9223372036854775807; omega)]
  rfl
set_option maxRecDepth 100000 in
set_option maxHeartbeats 4000000 in
theorem programTables_any (q bl inp : Int) (v : Value) (rows : List (List Cl)) (A B : Int) (w : World) (hM : MC w v rows) (hA0 : IntKind.u8.min ≤ A) (hA1 : A ≤ IntKind.u8.max) (hB0 : IntKind.u8.min ≤ B) (hB1 : B ≤ IntKind.u8.max) (hG : w.ShapedOpen Tryd.prog) :
    Calls Tryd.prog 3 #[.agg #[.int .i64 q, .int .i64 bl, .int .i64 inp, v], .int .u8 A, .int .u8 B] w fun e w' => e = .returned (.bool true) ∧ Below w.heap.size w w' := by
  have hA0 : 0 ≤ A := hA0
  have hA1 : A ≤ 255 := hA1
  have hB0 : 0 ≤ B := hB0
  have hB1 : B ≤ 255 := hB1
  obtain ⟨A, rfl⟩ : ∃ A' : Nat, A = A' := ⟨A.toNat, by omega⟩
  obtain ⟨B, rfl⟩ : ∃ B' : Nat, B = B' := ⟨B.toNat, by omega⟩
  obtain ⟨mx, hmx⟩ := maxLen_of hG
  have HMx := hid hmx
  have HM := hid hM
  have HGr := hid (fun X h => egreat_any q bl inp v rows X h)
  have HCk := hid (fun X h => rechk_any q bl inp v rows X h)
  have HAw := hid awake_any
  obtain ⟨ao, cap, rfl, hc1, hc2⟩ := hM.slice
  clear hM hG hmx
  go_enter Tryd.func3, Tryd.ntmps3
  go_upto_region 1 with fail
  obtain ⟨w0, hw0⟩ : ∃ w0, w.alloc (.cells #[.int .i64 q, .int .i64 bl, .int .i64 inp, .slice ao rows.length cap] 24) = w0 := ⟨_, rfl⟩
  obtain ⟨hb0, c0, c1, c2, c3⟩ := boxedE hw0
  rw [hw0]
  have HB0 := hid hb0
  clear hw0 hb0
  cases hg : gEnc rows
  · rw [hg] at HGr
    have HG := hid hg
    clear hg
    by_cases hE : eErr q bl inp rows = 0
    · have HE := hid hE
      have HV := hid (show Small q bl inp rows from ⟨eErr_zero hE, (gEnc_valid HG.out (eErr_zero hE)).1, (gEnc_valid HG.out (eErr_zero hE)).2⟩)
      rw [hE] at HCk
      clear hE
      obtain ⟨I, rfl⟩ : ∃ I : Nat, inp = I := ⟨inp.toNat, by have := HV.out.v.i1; omega⟩
      have HTb := hid (fun X h => table_any q bl I (.slice ao rows.length cap) rows X h HE.out HV.out)
      have hi1 : 1 ≤ I := by have := HV.out.v.i1; omega
      have hi6 : I ≤ 6 := by have := HV.out.i6; omega
      have hr1 := HV.out.v.r1
      have hr6 := HV.out.n6
      go_upto_region 3 with (first
        | (go_at_call 4; refine (HGr.out _ (HM.out.below HB0.out)).mono ?_; rintro e w1 ⟨rfl, hb1⟩; have c0 := keeps hb1 c0; have c1 := keeps hb1 c1; have c2 := keeps hb1 c2; have c3 := keeps hb1 c3; have HB1 := hid (bel_step HB0.out hb1); clear hb1)
        | (go_at_call 5; refine (HCk.out _ (HM.out.below HB1.out)).mono ?_; rintro e w2 ⟨rfl, hb2⟩; have c0 := keeps hb2 c0; have c1 := keeps hb2 c1; have c2 := keeps hb2 c2; have c3 := keeps hb2 c3; have HB2 := hid (bel_step HB1.out hb2); clear hb2))
      go_upto_region 4 with (go_at_call 7; refine (HTb.out _ (HM.out.below HB2.out)).mono ?_; rintro e w3 ⟨rfl, hb3⟩; have c2 := keeps hb3 c2; have c3 := keeps hb3 c3; have HB3 := hid (bel_step HB2.out hb3); clear hb3)
      clear c0 c1
      have HSp := hid (split_any (linesTo rows I (rows.length * I)) mx w3 (keeps HB3.out HMx.out) (HV.out.all (Nat.le_refl _)) (by rw [linesTo_len]; exact Nat.le_trans (Nat.mul_le_mul hr6 hi6) (by decide)))
      rw [linesTo_len] at HSp
      have HRn := hid (show 1 ≤ rows.length ∧ rows.length ≤ 6 from ⟨hr1, hr6⟩)
      generalize hn : rows.length = n at *
      have HN := hid hn
      clear hn
      have hP36 : n * I ≤ 36 := Nat.mul_le_mul hr6 hi6
      have hmul : IntKind.i64.wrap ((n : Int) * (I : Int)) = ((n * I : Nat) : Int) := by
        rw [← Int.natCast_mul]; exact IntWalk.i64_in _ (by omega)
      generalize hP : n * I = P at *
      have HP := hid hP
      clear hP HGr HCk HTb
      generalize hLs : linesTo rows I P = LS at *
      have HLs := hid hLs
      clear hLs
      generalize catL LS = TX at *
      go_upto_region 5 with (go_at_call 8; go_loud (refine HSp.out.mono ?_; rintro e w4 ⟨rfl, hw4⟩; have hb4 : Below w3.heap.size w3 w4 := hw4 ▸ bel_alloc _ _; have c2 := keeps hb4 c2; have c3 := keeps hb4 c3; have HB4 := hid (bel_step HB3.out hb4); have HW4 := hid hw4; clear hb4 hw4))
      have hn0 : ¬ n = 0 := by omega
      have hI0 : ¬ I = 0 := by omega
      have hwA : IntKind.i64.wrap (A : Int) = (A : Int) := IntWalk.i64_in _ (by omega)
      have hwB : IntKind.i64.wrap (B : Int) = (B : Int) := IntWalk.i64_in _ (by omega)
      obtain ⟨s, hs⟩ : ∃ s : Nat, A % n = s := ⟨_, rfl⟩
      obtain ⟨k, hk⟩ : ∃ k : Nat, B % I = k := ⟨_, rfl⟩
      have hsA : (A : Int).tmod (n : Int) = (s : Int) := by rw [← hs]; rfl
      have hkB : (B : Int).tmod (I : Int) = (k : Int) := by rw [← hk]; rfl
      have hsn : s < n := by rw [← hs]; exact Nat.mod_lt _ (by omega)
      have hkI : k < I := by rw [← hk]; exact Nat.mod_lt _ (by omega)
      clear hs hk
      obtain ⟨row, hrow⟩ := some_of_lt (show s < rows.length by rw [HN.out]; exact hsn)
      obtain ⟨br, o, r, c, rfl, n1, hS⟩ := HM.out.row hrow
      have hrl : row.length = I := by have := HV.out.v.len row (List.mem_of_getElem? hrow); omega
      have hkl : k < row.length := by omega
      obtain ⟨x, hx⟩ := some_of_lt hkl
      obtain ⟨b2, o2, rfl, m1, m2⟩ := hS.cl hx
      obtain ⟨hsz, _, hst0, hst, hs10, hk10⟩ := HV.out.line hrow hx
      have HLine := hid (lineM_at hkI hrow hx)
      clear hrow hx hS
      go_upto_region 7 with fail
      go_quiet (fail)
      have hbq : Below w.heap.size w (w4.drewN nq) := below_drewN HB4.out nq
      have hb4q : Below w4.heap.size w4 (w4.drewN nq) := below_drewN (Below.refl _ _) nq
      have c2 := keeps hb4q c2
      have c3 := keeps hb4q c3
      have n1 := keeps hbq n1
      have m1 := keeps hbq m1
      have m2 := keeps hbq m2
      have HLin := hid (fun (j : Nat) (l : ByteArray) (h : (LS ++ [(⟨#[]⟩ : ByteArray)])[j]? = some l) => (show (w4.drewN nq).cell? ⟨w3.heap.size, j, none⟩ = some (.string l) from keeps hb4q (by rw [HW4.out, cell_of_row _ w3.heap.size j _ _ _ (heap_alloc_new w3 _)]; simp only [List.getElem?_toArray, List.getElem?_map, h, Option.map_some])))
      have HBq := hid hbq
      clear hbq hb4q hsA hkB hwA hwB hn0 hI0 HB4
      generalize w4.drewN nq = w5 at *
      clear HW4
      go_upto_region 9 with fail
      obtain ⟨wx, hwx⟩ : ∃ wx, w5.alloc (.cells #[.int .i64 x.st, .string x.word] 34) = wx := ⟨_, rfl⟩
      obtain ⟨hbx, y0, y1⟩ := boxedC hwx
      rw [hwx]
      have c2 := keeps hbx c2
      have HBx := hid (HBq.out.trans (hbx.mono HBq.out.size))
      have HLx := hid (fun (j : Nat) (l : ByteArray) (h : (LS ++ [(⟨#[]⟩ : ByteArray)])[j]? = some l) => keeps hbx (HLin.out j l h))
      clear hwx hbx n1 m1 m2 c3 HLin HBq
      have HIt := hid itoa_low
      obtain ⟨xs, xw⟩ := x
      simp only at y0 y1 hst0 hst
      have hz := hsz
      unfold lineC at hz
      simp only [ByteArray.size_append] at hz
      have k1 := add_str (a := decB s) (b := ⟨#[32]⟩) (by show _ + spc.size ≤ _; omega)
      have k2 := add_str (a := decB s ++ ⟨#[32]⟩) (b := decB k) (by rw [ByteArray.size_append]; show _ + spc.size + _ ≤ _; omega)
      have k3 := add_str (a := decB s ++ ⟨#[32]⟩ ++ decB k) (b := ⟨#[32]⟩) (by simp only [ByteArray.size_append]; show _ + spc.size + _ + spc.size ≤ _; omega)
      have k4 := add_str (a := decB s ++ ⟨#[32]⟩ ++ decB k ++ ⟨#[32]⟩) (b := xw) (by simp only [ByteArray.size_append]; show _ + spc.size + _ + spc.size + _ ≤ _; omega)
      have k5 := add_str (a := decB s ++ ⟨#[32]⟩ ++ decB k ++ ⟨#[32]⟩ ++ xw) (b := ⟨#[32]⟩) (by simp only [ByteArray.size_append]; show _ + spc.size + _ + spc.size + _ + spc.size ≤ _; omega)
      have k6 := add_str (a := decB s ++ ⟨#[32]⟩ ++ decB k ++ ⟨#[32]⟩ ++ xw ++ ⟨#[32]⟩) (b := decB xs) (by simp only [ByteArray.size_append]; show _ + spc.size + _ + spc.size + _ + spc.size + _ ≤ _; omega)
      have hl6 : decB s ++ ⟨#[32]⟩ ++ decB k ++ ⟨#[32]⟩ ++ xw ++ ⟨#[32]⟩ ++ decB xs = lineC s k ⟨xs, xw⟩ := rfl
      rw [hl6] at k6
      generalize lineC (s : Int) (k : Int) ⟨xs, xw⟩ = L at *
      clear hl6 hz
      generalize decB s ++ ⟨#[32]⟩ ++ decB k ++ ⟨#[32]⟩ ++ xw ++ ⟨#[32]⟩ = L5 at *
      generalize decB s ++ ⟨#[32]⟩ ++ decB k ++ ⟨#[32]⟩ ++ xw = L4 at *
      generalize decB s ++ ⟨#[32]⟩ ++ decB k ++ ⟨#[32]⟩ = L3 at *
      generalize decB s ++ ⟨#[32]⟩ ++ decB k = L2 at *
      generalize decB s ++ ⟨#[32]⟩ = L1 at *
      have hs0 : (0 : Int) ≤ (s : Int) := by omega
      have hk0 : (0 : Int) ≤ (k : Int) := by omega
      have hss : (s : Int) < 10 := by omega
      have hkk : (k : Int) < 10 := by omega
      go_region_held3 (fun w' => w'.cell? ⟨w5.heap.size, 0, none⟩ = some (.int .i64 xs) ∧ w'.cell? ⟨w5.heap.size, 1, none⟩ = some (.string xw))
        (first | exact ⟨y0, y1⟩ | go_keep)
        (first
          | (go_at_call 9; refine (HIt.out _ (by first | exact hs0 | exact hk0 | exact hst0) (by first | exact hss | exact hkk | exact hst) _).mono ?_; rintro e w6 ⟨rfl, rfl⟩))
      all_goals
        have hQ : s * I + k < P := by
          have h9 := Nat.mul_le_mul_right I (show s + 1 ≤ n by omega)
          rw [Nat.succ_mul, HP.out] at h9
          omega
        have e1 : wx.drew.cell? ⟨w3.heap.size, s * I + k, none⟩ = some (.string L) := HLx.out _ L (by rw [List.getElem?_append_left (by rw [← HLs.out, linesTo_len]; exact hQ), ← HLs.out, linesTo_get hQ, HLine.out])
        have e2 : wx.drew.cell? ⟨w3.heap.size, P, none⟩ = some (.string ⟨#[]⟩) := HLx.out _ _ (by rw [List.getElem?_append_right (by rw [← HLs.out, linesTo_len]; exact Nat.le_refl _), ← HLs.out, linesTo_len, Nat.sub_self]; rfl)
        have hmul2 : IntKind.i64.wrap ((s : Int) * (I : Int)) = ((s * I : Nat) : Int) := by
          rw [← Int.natCast_mul]; exact IntWalk.i64_in _ (by omega)
        have HBy := hid (show Below w.heap.size w wx.drew from below_drewN HBx.out 1)
        have c2 : wx.drew.cell? ⟨w.heap.size, 2, none⟩ = some (.int .i64 (I : Int)) := c2
        clear hmul y0 y1 k1 k2 k3 k4 k5 k6
        generalize s * I = Q at *
        generalize wx.drew = wy at *
        go_wp2_with (go_at_call 6; refine (HAw.out _).mono ?_; rintro e w8 ⟨rfl, hb8⟩)
        go_ret
        exact ⟨rfl, bel_step HBy.out hb8⟩
    · have hE2 : (eErr q bl inp rows != 0) = true := by simp [hE]
      clear hE
      generalize eErr q bl inp rows = E at *
      go_wp2_with (first
        | (go_at_call 4; refine (HGr.out _ (HM.out.below HB0.out)).mono ?_; rintro e w1 ⟨rfl, hb1⟩; have c0 := keeps hb1 c0; have c1 := keeps hb1 c1; have c2 := keeps hb1 c2; have c3 := keeps hb1 c3; have HB1 := hid (bel_step HB0.out hb1); clear hb1)
        | (go_at_call 5; refine (HCk.out _ (HM.out.below HB1.out)).mono ?_; rintro e w2 ⟨rfl, hb2⟩; have HB2 := hid (bel_step HB1.out hb2); clear hb2)
        | (go_at_call 6; refine (HAw.out _).mono ?_; rintro e w3 ⟨rfl, hb3⟩))
      go_ret
      exact ⟨rfl, bel_step HB2.out hb3⟩
  · rw [hg] at HGr
    clear hg
    go_wp2_with (first
      | (go_at_call 4; refine (HGr.out _ (HM.out.below HB0.out)).mono ?_; rintro e w1 ⟨rfl, hb1⟩; have c0 := keeps hb1 c0; have c1 := keeps hb1 c1; have c2 := keeps hb1 c2; have c3 := keeps hb1 c3; have HB1 := hid (bel_step HB0.out hb1); clear hb1)
      | (go_at_call 6; refine (HAw.out _).mono ?_; rintro e w3 ⟨rfl, hb3⟩))
    go_ret
    exact ⟨rfl, bel_step HB1.out hb3⟩
end Go.Proofs.YtpgkigjmjognjaaDoor
