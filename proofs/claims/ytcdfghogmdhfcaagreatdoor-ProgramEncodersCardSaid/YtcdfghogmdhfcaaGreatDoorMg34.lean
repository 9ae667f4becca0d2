/-
  program.Table at a valid encoder that is not large: its lines.
  The reference's decimal: the digits of a number.
  Conditions: No condition beyond the rows lying in a slice. The number is not negative.
-/
import Derived.Test.YtcdfghogmdhfcaaGreatDoorEncChk
import Derived.Test.YtcdfghogmdhfcaaGreatDoorMg33
import Derived.Test.YtcdfghogmdhfcaaGreatDoorShelfT
import Derived.Deep.RegionHeld3
import Derived.Test.YtcdfghogmdhfcaaGreatDoorRfCel
namespace Go.Proofs.YtcdfghogmdhfcaaGreatDoor
open Go.RowKit Go.Deep
set_option linter.unusedVariables false

theorem itoa_low (k : Int) (h0 : 0 ≤ k) (h : k < 10) (w : World) : Calls Tryz.prog 31 #[.int .i64 k] w fun e w' => e = .returned (.string (decB k)) ∧ w = w' := by
  obtain ⟨n, rfl⟩ : ∃ n : Nat, k = n := ⟨k.toNat, by omega⟩
  refine (Tryz.strconv_Itoa_small n (by omega) w).mono ?_
  rintro e w' ⟨rfl, rfl⟩
  exact ⟨rfl, rfl⟩
theorem join_four (g : Nat) (a b c d : ByteArray) (w : World) (h0 : w.cell? ⟨g, 0, none⟩ = some (.string a)) (h1 : w.cell? ⟨g, 1, none⟩ = some (.string b)) (h2 : w.cell? ⟨g, 2, none⟩ = some (.string c)) (h3 : w.cell? ⟨g, 3, none⟩ = some (.string d)) (hl : ((((((a ++ spc) ++ b) ++ spc) ++ c) ++ spc) ++ d).size ≤ 60) :
    Calls Tryz.prog 30 #[.slice (some ⟨g, 0, none⟩) 4 4, .string ⟨#[32]⟩] w fun e w' => e = .returned (.string ((((((a ++ spc) ++ b) ++ spc) ++ c) ++ spc) ++ d)) ∧ Below w.heap.size w w' := by
  rw [← join4] at hl ⊢
  refine (Tryz.strings_Join g 0 4 [a, b, c, d] spc w (fun j x hj => ?_) (World.block_lt_of_cell? _ _ h0) (by simp) (by simp) ?_)
  · match j, hj with
    | 0, hj => simp at hj; subst hj; exact h0
    | 1, hj => simp at hj; subst hj; exact h1
    | 2, hj => simp at hj; subst hj; exact h2
    | 3, hj => simp at hj; subst hj; exact h3
    | j + 4, hj => simp at hj
  · have e : (⟨(Lib.join ([a, b, c, d].map (·.data.toList)) spc.data.toList).toArray⟩ : ByteArray).size = (Lib.join ([a, b, c, d].map (·.data.toList)) spc.data.toList).length := by rw [← ba_len]
    omega
theorem app_cells (a b : ByteArray) : Lib.byteCells a.data.toList ++ Lib.strCells b = Lib.byteCells (a ++ b).data.toList := by
  rw [Lib.strCells_eq, Lib.byteCells, Lib.byteCells, Lib.byteCells]
  simp

set_option maxRecDepth 100000 in
set_option maxHeartbeats 4000000 in
theorem table_any (q bl : Int) (I : Nat) (v : Value) (rows : List (List Cl)) (w : World) (hM : MC w v rows) (hE : eErr q bl (I : Int) rows = 0) (hV : Small q bl (I : Int) rows) :
    Calls Tryz.prog 9 #[.agg #[.int .i64 q, .int .i64 bl, .int .i64 (I : Int), v]] w fun e w' => e = .returned (.tuple #[.string (catL (linesTo rows I (rows.length * I))), .int .i64 0]) ∧ Below w.heap.size w w' := by
  have HM := hid hM
  have HV := hid hV
  have HCk := hid (fun X h => echk_any q bl (I : Int) v rows X h)
  rw [hE] at HCk
  obtain ⟨ao, cap, rfl, hc1, hc2⟩ := hM.slice
  clear hM hV hE
  go_enter Tryz.func9, Tryz.ntmps9
  go_upto_region 1 with fail
  obtain ⟨w0, hw0⟩ : ∃ w0, w.alloc (.cells #[.int .i64 q, .int .i64 bl, .int .i64 (I : Int), .slice ao rows.length cap] 24) = w0 := ⟨_, rfl⟩
  obtain ⟨hb0, c0, c1, c2, c3⟩ := boxedE hw0
  rw [hw0]
  have HB0 := hid hb0
  have HS0 := hid (show w0.heap.size = w.heap.size + 1 by rw [← hw0]; simp)
  clear hw0 hb0
  go_upto_region 3 with (go_at_call 19; refine (HCk.out _ (HM.out.below HB0.out)).mono ?_; rintro e w1 ⟨rfl, hb1⟩; have c3 := keeps hb1 c3; have HB1 := hid (bel_step HB0.out hb1); have HS1 := hid hb1.size; clear hb1)
  clear c0 c1 c2
  go_upto_region 4 with fail
  obtain ⟨w2, hw2⟩ : ∃ w2, w1.alloc (.cells #[.pointer none, .slice none 0 0] 71) = w2 := ⟨_, rfl⟩
  have hb2 : Below w1.heap.size w1 w2 := by rw [← hw2]; exact bel_alloc _ _
  have hbld : Bld w2 w1.heap.size (w1.heap.size + 1) [] := by rw [← hw2]; exact Bld.fresh w1
  rw [hw2]
  have c3 := keeps hb2 c3
  have HB2 := hid (bel_step HB1.out hb2)
  have HSb := hid (show w.heap.size < w1.heap.size by have := HS0.out; have := HS1.out; omega)
  have HBl := hid hbld
  clear hw2 hb2 hbld HCk
  generalize w1.heap.size = b at *
  generalize hn : rows.length = n at *
  have HN := hid hn
  clear hn
  go_wp2_with fail
  clear c3
  go_loopw [15] (fun i wr => ∃ k : Nat, k ≤ n ∧ i = .int .i64 (k : Int) ∧ Bld wr b (b + 1) (Lib.byteCells (catL (linesTo rows I (k * I))).data.toList) ∧ BelB (b + 1) b w2 wr) (fun i _ => n - (intOf i).toNat)
  case atStart => exact ⟨0, Nat.zero_le _, rfl, by rw [Nat.zero_mul]; exact HBl.out, BelB.refl _ _ _⟩
  case round =>
    obtain ⟨k, hk, rfl, hBk, hbk⟩ := hrel
    have HBk := hid hBk
    have Hbk := hid hbk
    clear hBk hbk
    rename World => wm
    have HBw := hid (HB2.out.trans (Hbk.out.below (by have := HSb.out; omega) (by have := HSb.out; omega)))
    by_cases hlt : k < n
    · obtain ⟨row, hrow⟩ := some_of_lt (show k < rows.length by rw [HN.out]; exact hlt)
      obtain ⟨br, o, r, c, rfl, n1, hS⟩ := HM.out.row hrow
      have n1 := keeps HBw.out n1
      have HR := hid hrow
      have HS := hid hS
      have HLn := hid (HV.out.v.len row (List.mem_of_getElem? hrow))
      have hl6 : row.length ≤ 6 := by have := HLn.out; have := HV.out.i6; omega
      clear hrow hS
      go_wp2_with fail
      clear n1
      go_loopw [22] (fun i wr => ∃ j : Nat, j ≤ row.length ∧ i = .int .i64 (j : Int) ∧ Bld wr b (b + 1) (Lib.byteCells (catL (linesTo rows I (k * I + j))).data.toList) ∧ BelB (b + 1) b w2 wr) (fun i _ => row.length - (intOf i).toNat)
      case atStart => exact ⟨0, Nat.zero_le _, rfl, HBk.out, Hbk.out⟩
      case round =>
        obtain ⟨j, hj, rfl, hBj, hbj⟩ := hrel
        have HBj := hid hBj
        have Hbj := hid hbj
        clear hBj hbj
        rename World => wn
        have HBn := hid (HB2.out.trans (Hbj.out.below (by have := HSb.out; omega) (by have := HSb.out; omega)))
        by_cases hlj : j < row.length
        · obtain ⟨x, hx⟩ := some_of_lt hlj
          obtain ⟨b2, o2, rfl, m1, m2⟩ := (HS.out.below HBn.out).cl hx
          obtain ⟨hsz, _, hst0, hst, hk10, hj10⟩ := HV.out.line HR.out hx
          have hI : j < I := by have := HLn.out; omega
          have HLi := hid (show linesTo rows I (k * I + (j + 1)) = linesTo rows I (k * I + j) ++ [lineC k j x] by rw [← Nat.add_assoc, linesTo_succ, lineM_at hI HR.out hx])
          have HSm := hid (HV.out.text (m := k * I + j) (by have h9 := Nat.mul_le_mul_right I (show k + 1 ≤ rows.length by rw [HN.out]; omega); rw [Nat.succ_mul] at h9; omega))
          have HIt := hid itoa_low
          have HJn := hid (fun (g : Nat) (X : World) h0 h1 h2 h3 => join_four g (decB k) (decB j) x.word (decB x.st) X h0 h1 h2 h3 hsz)
          go_upto_region 10 with fail
          obtain ⟨wx, hwx⟩ : ∃ wx, wn.alloc (.cells #[.int .i64 x.st, .string x.word] 45) = wx := ⟨_, rfl⟩
          obtain ⟨hbx, y0, y1⟩ := boxedC hwx
          rw [hwx]
          have hkx : wx.heap[wn.heap.size]? = some (.cells #[.int .i64 x.st, .string x.word] 45 (0, 0)) := by rw [← hwx]; exact heap_alloc_new wn _
          have hnx : wn.heap.size ≠ b := by have := HBj.out.lt; omega
          have HBx := hid (HBj.out.below hbx)
          have Hbx := hid (Hbj.out.trans (BelB.of (hbx.mono HBj.out.2.1)))
          have hcat : ∀ X : World, (Op.stringOp .add (lineC k j x) ⟨#[10]⟩).run Tryz.prog X = .ok (.string (lineC k j x ++ eol)) X := fun X => by
            unfold Op.stringOp
            rw [if_neg (by show ¬ (((lineC k j x).size + 1 : Nat) : Int) > 9223372036854775807; omega)]
            rfl
          clear hwx hbx m1 m2
          have HWs := hid (fun (X : World) (h : Bld X b (b + 1) (Lib.byteCells (catL (linesTo rows I (k * I + j))).data.toList)) => writeString_bldt b (b + 1) _ (lineC k j x ++ eol) X h (by rw [Lib.byteCells_length, ba_len, ByteArray.size_append, show eol.size = 1 from rfl]; have := HSm.out; omega))
          rw [app_cells, ← catL_snoc, ← HLi.out] at HWs
          have hl1 : decB k ++ spc ++ decB j ++ spc ++ x.word ++ spc ++ decB x.st = lineC k j x := rfl
          rw [hl1] at HJn
          clear hl1 HLi hsz
          generalize lineC (k : Int) (j : Int) x = L at *
          generalize hLL : linesTo rows I (k * I + (j + 1)) = LL at *
          have HLL := hid hLL
          clear hLL
          obtain ⟨xs, xw⟩ := x
          simp only at y0 y1 hst0 hst HJn hkx
          have HLo := hid (And.intro hst0 hst)
          have hk0 : (0 : Int) ≤ (k : Int) := by omega
          have hj0 : (0 : Int) ≤ (j : Int) := by omega
          have hkk : (k : Int) < 10 := by omega
          have hjj : (j : Int) < 10 := by omega
          go_region_held3 (fun w' => w'.cell? ⟨wn.heap.size, 0, none⟩ = some (.int .i64 xs) ∧ w'.cell? ⟨wn.heap.size, 1, none⟩ = some (.string xw))
            (first | exact ⟨y0, y1⟩ | go_keep)
            (first
              | (go_at_call 31; refine (HIt.out _ (by first | exact hk0 | exact hj0 | exact hst0) (by first | exact hkk | exact hjj | exact hst) _).mono ?_; rintro e w5 ⟨rfl, rfl⟩)
              | (go_at_call 30; refine (HJn.out _ _ (by simp) (by simp) (by simp) (by simp)).mono ?_; rintro e wj ⟨rfl, hbj⟩; have HBJ := hid (bel_step (bel_alloc wx _) hbj); have y0 := keeps HBJ.out y0; have y1 := keeps HBJ.out y1; clear hbj)
              | (go_at_call 29; refine (HWs.out _ (HBx.out.below (HBJ.out))).mono ?_; rintro e w9 ⟨rfl, hB9, hb9, ht9⟩; have hkj := (HBJ.out.block _ (Array.getElem?_eq_some_iff.1 hkx).1).trans hkx; have y0 := ht9.cell y0 hkj (by decide) hnx; have y1 := ht9.cell y1 hkj (by decide) hnx; have HB9 := hid hB9; have Hb9 := hid ((Hbx.out.trans (BelB.of (HBJ.out.mono HBx.out.2.1))).trans hb9); clear hB9 hb9 ht9 hkj))
          all_goals
            clear hcat y0 y1 hkx
            go_wp2
            go_roundw
            case rel => exact ⟨j + 1, by omega, by go_num, by rw [HLL.out]; exact HB9.out, Hb9.out⟩
            case measure => simp [intOf]; omega
        · obtain rfl : j = row.length := by omega
          have HI := hid (show k * I + row.length = (k + 1) * I by have := HLn.out; rw [Nat.succ_mul]; omega)
          go_wp2
          go_roundw
          case rel => exact ⟨k + 1, by omega, by go_num, by rw [← HI.out]; exact HBj.out, Hbj.out⟩
          case measure => simp [intOf]; omega
    · obtain rfl : k = n := by omega
      have HStr := hid (fun X h => string_bld b (b + 1) (catL (linesTo rows I (k * I))).data.toList X h)
      have HLen := hid (fun X (h : Bld X b (b + 1) (Lib.byteCells (catL (linesTo rows I (k * I))).data.toList)) => Tryz.Builder_Len b b (Lib.byteCells (catL (linesTo rows I (k * I))).data.toList) X h.is)
      rw [Lib.byteCells_length] at HLen
      have HTx := hid (show (catL (linesTo rows I (k * I))).data.toList.length ≤ 2196 by rw [ba_len]; exact HV.out.text (by rw [HN.out]; exact Nat.le_refl _))
      have HSame := hid (show (⟨(catL (linesTo rows I (k * I))).data.toList.toArray⟩ : ByteArray) = catL (linesTo rows I (k * I)) by simp)
      have hle := HTx.out
      rw [HSame.out] at HStr
      generalize hTX : catL (linesTo rows I (k * I)) = TX at *
      have HTX := hid hTX
      clear hTX
      generalize TX.data.toList.length = NL at *
      have hnl : ¬ 65536 < (NL : Int) := by omega
      go_wp2_with (first
        | (go_at_call 32; refine (HLen.out _ HBk.out).mono ?_; rintro e w5 ⟨rfl, rfl⟩)
        | (go_at_call 33; refine (HStr.out _ HBk.out).mono ?_; rintro e w6 ⟨rfl, hb6⟩))
      refine bodyPost_ret (v := .tuple #[.string TX, .int .i64 0]) ?_ rfl ⟨by rw [HN.out, HTX.out], HBw.out.trans (hb6.mono (by have := HSb.out; omega))⟩
      simp [results, Tryz.results9, go_sem]
end Go.Proofs.YtcdfghogmdhfcaaGreatDoor

namespace Go.Proofs.YtcdfghogmdhfcaaGreatDoor
open Go.RowKit
set_option linter.unusedVariables false

theorem conv_dig {w : World} (c : UInt8) : (convert 54 9 (.slice (some ⟨w.heap.size, 0, none⟩) 1 1)).run Tryz.prog (w.alloc (.cells #[.int .u8 (c.toNat : Int)] 5)) = .ok (.string ⟨#[c]⟩) (w.alloc (.cells #[.int .u8 (c.toNat : Int)] 5)) :=
  run_convert_bytes_back (P := Tryz.prog) (w.alloc (.cells #[.int .u8 (c.toNat : Int)] 5)) 54 9 5 ⟨w.heap.size, 0, none⟩ 1 [c] Tryz.underlying54 Tryz.underlying5 Tryz.underlying9 (fun j hj => by
    have hj0 : j = 0 := by simpa using hj
    subst hj0
    exact World.news_of_block (heap_alloc_new w (.cells #[.int .u8 (c.toNat : Int)] 5)) 0 _ (by simp))
theorem catD (c : UInt8) (l : List UInt8) (w : World) (h : l.length ≤ 1000) : (Op.stringOp .add ⟨#[c]⟩ ⟨l.toArray⟩).run Tryz.prog w = .ok (.string ⟨(c :: l).toArray⟩) w := by
  unfold Op.stringOp
  have h1 : (⟨#[c]⟩ : ByteArray).size + (⟨l.toArray⟩ : ByteArray).size = 1 + l.length := by
    show #[c].size + l.toArray.size = _
    simp
  rw [if_neg (by rw [h1]; show ¬ ((1 + l.length : Nat) : Int) > 9223372036854775807; omega)]
  have h2 : (⟨#[c]⟩ : ByteArray) ++ ⟨l.toArray⟩ = ⟨(c :: l).toArray⟩ := by
    apply ByteArray.ext
    rw [ByteArray.data_append]
    simp
  rw [h2]
  rfl
theorem dig_of (m : Nat) : ((UInt8.ofNat (48 + m % 10)).toNat : Int) = 48 + ((m % 10 : Nat) : Int) := by
  rw [UInt8.toNat_ofNat']; omega
theorem ndig_below : ∀ (k u : Nat), 1 ≤ k → u < 10 ^ k → Lib.nDigits u ≤ k
  | 0, u, h, _ => by omega
  | k + 1, u, _, h => by
    by_cases h10 : u < 10
    · rw [Lib.nDigits_small h10]; omega
    · rw [Lib.nDigits_big h10]
      have h1 : 1 ≤ k := by
        rcases Nat.eq_zero_or_pos k with h0 | h0
        · subst h0; simp at h; omega
        · exact h0
      have := ndig_below k (u / 10) h1 (by rw [Nat.pow_succ] at h; omega)
      omega
theorem dec_len20 {u : Nat} (h : u ≤ 9223372036854775807) : (Lib.decDigits u).length ≤ 20 := by
  rw [Lib.decDigits_length]
  have := ndig_below 19 u (by decide) (by omega)
  omega
set_option maxRecDepth 100000 in
set_option maxHeartbeats 1000000 in
theorem decimal_any (N : Nat) (w : World) (hN : N ≤ 9223372036854775807) :
    Calls Tryz.prog 34 #[.int .i64 (N : Int)] w fun e w' => e = .returned (.string ⟨(Lib.decDigits N).toArray⟩) ∧ Below w.heap.size w w' := by
  have HD := hid (show (Lib.decDigits N).length ≤ 1000 from Nat.le_trans (dec_len20 hN) (by decide))
  go_enter Tryz.func34, Tryz.ntmps34
  go_wp2_with fail
  go_loopw [0, 3] (fun a s wr => ∃ (m : Nat) (l : List UInt8), m ≤ N ∧ a = .int .i64 (m : Int) ∧ s = .string ⟨l.toArray⟩ ∧ Hid (Lib.decDigits N = Lib.decDigits m ++ l) ∧ Hid (Below w.heap.size w wr)) (fun a _ _ => (intOf a).toNat)
  case atStart => exact ⟨N, [], Nat.le_refl _, rfl, rfl, hid (by simp), hid (Below.refl _ _)⟩
  case round =>
    obtain ⟨m, l, hm, rfl, rfl, HE, HB⟩ := hrel
    rename World => wk
    have hl : l.length ≤ 1000 := by
      have h1 := congrArg List.length HE.out
      rw [List.length_append] at h1
      have := HD.out
      omega
    have hr : (m : Int) % 10 = ((m % 10 : Nat) : Int) := by omega
    have hw8 : IntKind.u8.wrap (48 + ((m % 10 : Nat) : Int)) = ((UInt8.ofNat (48 + m % 10)).toNat : Int) := by rw [dig_of, IntKind.wrap_u8]; omega
    have hw9 : (48 + ((m % 10 : Nat) : Int)) % 256 = ((UInt8.ofNat (48 + m % 10)).toNat : Int) := by rw [dig_of]; omega
    have hq : (m : Int) / 10 = ((m / 10 : Nat) : Int) := by omega
    have HCv := hid (fun X : World => conv_dig (w := X) (UInt8.ofNat (48 + m % 10)))
    have HCt := hid (fun X : World => catD (UInt8.ofNat (48 + m % 10)) l X hl)
    by_cases h0 : m < 10
    · have hz : (((m / 10 : Nat) : Int) == 0) = true := by rw [beq_iff_eq]; omega
      have HV := hid (show Lib.decDigits N = UInt8.ofNat (48 + m % 10) :: l by
        rw [HE.out, Lib.decDigits, dif_pos h0, Nat.mod_eq_of_lt h0]; rfl)
      clear h0
      generalize UInt8.ofNat (48 + m % 10) = c at *
      generalize m % 10 = r at *
      generalize m / 10 = q at *
      have hconv := HCv.out wk
      have hcat := fun X => HCt.out X
      go_wp2
      go_ret
      exact ⟨by rw [HV.out]; rfl, HB.out.trans ((bel_alloc wk _).mono HB.out.size)⟩
    · have hz : (((m / 10 : Nat) : Int) == 0) = false := by rw [beq_eq_false_iff_ne]; omega
      have HV := hid (show Lib.decDigits N = Lib.decDigits (m / 10) ++ UInt8.ofNat (48 + m % 10) :: l by
        rw [HE.out, Lib.decDigits, dif_neg h0, List.append_assoc]; rfl)
      have hqm : m / 10 ≤ N := by omega
      have hlt : m / 10 < m := by omega
      clear h0
      generalize UInt8.ofNat (48 + m % 10) = c at *
      generalize m % 10 = r at *
      generalize m / 10 = q at *
      have hconv := HCv.out wk
      have hcat := fun X => HCt.out X
      go_wp2
      go_roundw
      case rel => exact ⟨q, c :: l, hqm, rfl, rfl, HV, hid (HB.out.trans ((bel_alloc wk _).mono HB.out.size))⟩
      case measure => simp [intOf]; omega
end Go.Proofs.YtcdfghogmdhfcaaGreatDoor
