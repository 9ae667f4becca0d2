/-
  program.Encoder at a valid encoder that is not large: its program.
  The program of an encoder is valid, and computes the encoder's cells.
  Conditions: No condition beyond the rows lying in a slice. The encoder is small.
-/
import Derived.Test.YtcdfghogmdhfcaaGreatDoorEncMem
import Derived.Test.YtcdfghogmdhfcaaGreatDoorEncChk
import Derived.Test.YtcdfghogmdhfcaaGreatDoorShelfW
namespace Go.Proofs.YtcdfghogmdhfcaaGreatDoor
open Go.RowKit Go.Deep
set_option linter.unusedVariables false

structure SmallE (q bl I : Nat) (rows : List (List Cl)) : Prop where
  v : EncV (q : Int) (bl : Int) (I : Int) rows
  n6 : rows.length ≤ 6
  i6 : I ≤ 6
def encTabs (q bl I : Nat) (rows : List (List Cl)) : List (List UInt8) := (List.range (wid rows.length + bl * wid q)).map fun i => tabL rows q rows.length I (wid rows.length) (wid I) i
def encP (q bl I : Nat) (rows : List (List Cl)) : MSt × List Int := mkAll (wid rows.length + wid I) (encTabs q bl I rows)
theorem Tryz.infoBytes : (Tryz.prog.info? 54).map (fun i => (i.zero, i.size, i.bytes)) = some (some (.slice none 0 0), 1, 24) := by kernel_rfl
theorem or_small (a b : Nat) (ha : a < 65536) (hb : b < 65536) : bits .or .i64 (a : Int) (b : Int) = ((a ||| b : Nat) : Int) := by
  have hx : a ||| b < 2 ^ 16 := Nat.or_lt_two_pow (by omega) (by omega)
  have h1 : (BitVec.ofInt 64 (a : Int)).toNat = a := by
    rw [BitVec.ofInt_natCast, BitVec.toNat_ofNat]; exact Nat.mod_eq_of_lt (by omega)
  have h2 : (BitVec.ofInt 64 (b : Int)).toNat = b := by
    rw [BitVec.ofInt_natCast, BitVec.toNat_ofNat]; exact Nat.mod_eq_of_lt (by omega)
  show IntKind.i64.wrap ((BitVec.ofInt 64 (a : Int) ||| BitVec.ofInt 64 (b : Int)).toNat : Int) = _
  rw [BitVec.toNat_or, h1, h2]
  exact IntWalk.i64_in _ (by omega)
theorem rep_zeros (k : Nat) : Lib.repeatL [48] k = List.replicate k 48 := by
  induction k with
  | zero => rfl
  | succ k ih => rw [Lib.repeatL, ih]; rfl
/-- The encoder's box. -/
structure EBox (w : World) (b q bl I : Nat) (ao : Option Addr) (n cap : Nat) : Prop where
  c0 : w.cell? ⟨b, 0, none⟩ = some (.int .i64 (q : Int))
  c1 : w.cell? ⟨b, 1, none⟩ = some (.int .i64 (bl : Int))
  c2 : w.cell? ⟨b, 2, none⟩ = some (.int .i64 (I : Int))
  c3 : w.cell? ⟨b, 3, none⟩ = some (.slice ao n cap)
theorem EBox.below {w w' : World} {b q bl I n cap : Nat} {ao : Option Addr} (h : EBox w b q bl I ao n cap) (hb : Below w.heap.size w w') : EBox w' b q bl I ao n cap := ⟨keeps hb h.c0, keeps hb h.c1, keeps hb h.c2, keeps hb h.c3⟩
theorem EBox.set {w : World} {b q bl I n cap : Nat} {ao : Option Addr} (h : EBox w b q bl I ao n cap) {a : Addr} (ha : b ≠ a.block) (v : Value) : EBox (w.setCell a v) b q bl I ao n cap := by
  have e : ∀ j : Nat, a ≠ (⟨b, j, none⟩ : Addr) := fun j e => ha (by rw [e])
  exact ⟨(World.cell?_setCell_other _ _ _ _ (e 0)).trans h.c0, (World.cell?_setCell_other _ _ _ _ (e 1)).trans h.c1, (World.cell?_setCell_other _ _ _ _ (e 2)).trans h.c2, (World.cell?_setCell_other _ _ _ _ (e 3)).trans h.c3⟩
set_option maxRecDepth 100000 in
set_option maxHeartbeats 8000000 in
theorem encoder_any (q bl I : Nat) (v : Value) (rows : List (List Cl)) (w : World) (hM : MC w v rows) (hE : eErr (q : Int) (bl : Int) (I : Int) rows = 0) (hV : SmallE q bl I rows) :
    Calls Tryz.prog 7 #[.agg #[.int .i64 (q : Int), .int .i64 (bl : Int), .int .i64 (I : Int), v]] w fun e w' => ∃ vc vo, e = .returned (.tuple #[.agg #[.int .i64 ((wid rows.length + wid I : Nat) : Int), vc, vo], .int .i64 0]) ∧ Sl 3 w' vc (encP q bl I rows).1.code.length (icells (encP q bl I rows).1.code) ∧ Sl 1 w' vo (encP q bl I rows).2.length (ints (encP q bl I rows).2) ∧ Below w.heap.size w w' := by
  have HM := hid hM
  have HV := hid hV
  have HCk := hid (fun X h => echk_any (q : Int) (bl : Int) (I : Int) v rows X h)
  rw [hE] at HCk
  obtain ⟨ao, cap, rfl, hc1, hc2⟩ := hM.slice
  have hq1 := hV.v.q1
  have hq2 := hV.v.q16
  have hb2 := hV.v.b16
  have hi1 := hV.v.i1
  have hi2 := hV.i6
  have hn1 := hV.v.r1
  have hn2 := hV.n6
  have hF1 := wid_fits (show 1 ≤ rows.length by omega) (by omega)
  have hF2 := wid_fits (show 1 ≤ I by omega) (by omega)
  have hF3 := wid_fits (show 1 ≤ q by omega) (by omega)
  have hSB := hF1.2.2.2 (by omega)
  have hIB := hF2.2.2.2 (by omega)
  have hWQ := hF3.2.2.1 (by omega)
  have HFt := hid (And.intro hF1.1 hF2.1)
  clear hM hV hE hF1 hF2 hF3
  have HW1 := hid (fun X => width_any rows.length X (by omega) (by omega))
  have HW2 := hid (fun X => width_any I X (by omega) (by omega))
  have HW3 := hid (fun X => width_any q X (by omega) (by omega))
  have HCe := hid (fun (c : Cl) X h1 h2 h3 h4 => cell_any q rows.length (bl : Int) (I : Int) ao cap c X (by omega) (by omega) (by omega) (by omega) h1 h2 h3 h4)
  go_enter Tryz.func7, Tryz.ntmps7
  go_upto_region 1 with fail
  obtain ⟨w0, hw0⟩ : ∃ w0, (w.alloc (.cells #[.int .i64 (q : Int), .int .i64 (bl : Int), .int .i64 (I : Int), .slice ao rows.length cap] 24)).alloc (.cells #[.int .i64 0, .slice none 0 0, .slice none 0 0] 28) = w0 := ⟨_, rfl⟩
  have hb0 : Below w.heap.size w w0 := by rw [← hw0]; exact (bel_alloc _ _).alloc (by simp) _
  have c0 : w0.cell? ⟨w.heap.size, 0, none⟩ = some (.int .i64 (q : Int)) := by rw [← hw0]; simp
  have c1 : w0.cell? ⟨w.heap.size, 1, none⟩ = some (.int .i64 (bl : Int)) := by rw [← hw0]; simp
  have c2 : w0.cell? ⟨w.heap.size, 2, none⟩ = some (.int .i64 (I : Int)) := by rw [← hw0]; simp
  have c3 : w0.cell? ⟨w.heap.size, 3, none⟩ = some (.slice ao rows.length cap) := by rw [← hw0]; simp
  have hz0 : zeroP w0 (w.heap.size + 1) := by
    have h := heap_alloc_new (w.alloc (.cells #[.int .i64 (q : Int), .int .i64 (bl : Int), .int .i64 (I : Int), .slice ao rows.length cap] 24)) (.cells #[.int .i64 0, .slice none 0 0, .slice none 0 0] 28)
    rw [World.size_alloc, hw0] at h
    exact h
  have HS0 := hid (show w0.heap.size = w.heap.size + 2 by rw [← hw0]; simp)
  rw [hw0]
  have HB0 := hid hb0
  have HZ0 := hid hz0
  clear hw0 hb0 hz0
  go_upto_region 3 with (go_at_call 19; refine (HCk.out _ (HM.out.below HB0.out)).mono ?_; rintro e w1 ⟨rfl, hb1⟩; have c0 := keeps hb1 c0; have c1 := keeps hb1 c1; have c2 := keeps hb1 c2; have c3 := keeps hb1 c3; have HB1 := hid (bel_step HB0.out hb1); have HS1 := hid hb1.size; have HZ1 := hid (show zeroP w1 (w.heap.size + 1) from (hb1.block _ (Array.getElem?_eq_some_iff.1 HZ0.out).1).trans HZ0.out); clear hb1)
  clear HCk HZ0
  generalize hSBe : wid rows.length = SB at *
  generalize hIBe : wid I = IB at *
  generalize hWQe : wid q = WQ at *
  have HWe := hid (And.intro hSBe (And.intro hIBe hWQe))
  clear hSBe hIBe hWQe
  go_region_held3 (fun w' => w'.cell? ⟨w.heap.size, 2, none⟩ = some (.int .i64 (I : Int)) ∧ w'.cell? ⟨w.heap.size, 3, none⟩ = some (.slice ao rows.length cap))
    (first | exact ⟨c2, c3⟩ | go_keep)
    (first
      | (have _g := HM1.out; clear _g; go_at_call 20; refine (HW2.out _).mono ?_; rintro e w2 ⟨rfl, rfl⟩)
      | (go_at_call 20; refine (HW1.out _).mono ?_; rintro e w2 ⟨rfl, rfl⟩; have HM1 := hid True.intro))
  have hbd : Below w1.heap.size w1 w1.drew := below_drewN (Below.refl _ _) 1
  have c0 := keeps hbd c0
  have c1 := keeps hbd c1
  have c2 := keeps hbd c2
  have c3 := keeps hbd c3
  have HB2 := hid (bel_step HB1.out hbd)
  have HZ2 := hid (show zeroP w1.drew (w.heap.size + 1) from HZ1.out)
  have HS2 := hid (show w.heap.size + 2 ≤ w1.drew.heap.size by have := HS1.out; have := HS0.out; have := hbd.size; omega)
  clear HZ1 HS1 HM1 HB1 hbd HW1 HW2
  generalize w1.drew = w2 at *
  generalize hn : rows.length = n at *
  have HN := hid hn
  clear hn
  obtain ⟨V, hVe⟩ : ∃ V : Int, (SB : Int) + (IB : Int) = V := ⟨_, rfl⟩
  obtain ⟨SZ, hSZ⟩ : ∃ SZ : Nat, 2 ^ (SB + IB) = SZ := ⟨_, rfl⟩
  have hSZ64 : SZ ≤ 64 := by rw [← hSZ]; exact Nat.le_trans (Nat.pow_le_pow_right (by decide) (show SB + IB ≤ 6 by omega)) (by decide)
  have HSz := hid hSZ
  have hshl : IntKind.i64.wrap (2 ^ V.toNat) = (SZ : Int) := by
    have : V.toNat = SB + IB := by omega
    rw [this]
    have h2 : ((2 : Int) ^ (SB + IB)) = (SZ : Int) := by rw [← hSZ]; simp
    rw [h2]
    exact IntWalk.i64_in _ (by omega)
  have hV0 : 0 ≤ V := by omega
  have hV6 : V ≤ 6 := by omega
  have hwV : IntKind.i64.wrap ((SB : Int) + (IB : Int)) = V := by rw [hVe]; exact IntWalk.i64_in _ (by omega)
  have HVe := hid hVe
  clear hSZ
  have hBW : bl * WQ ≤ 64 := Nat.mul_le_mul (show bl ≤ 16 by omega) hWQ
  obtain ⟨BW, hBe⟩ : ∃ BW : Nat, bl * WQ = BW := ⟨_, rfl⟩
  rw [hBe] at hBW
  have hmul : IntKind.i64.wrap ((bl : Int) * (WQ : Int)) = (BW : Int) := by
    rw [← Int.natCast_mul, hBe]; exact IntWalk.i64_in _ (by omega)
  have HBe := hid hBe
  clear hBe
  go_upto_region 5 with fail
  clear hshl hwV hVe
  go_region_held3 (fun w' => w'.cell? ⟨w.heap.size, 0, none⟩ = some (.int .i64 (q : Int)) ∧ w'.cell? ⟨w.heap.size, 1, none⟩ = some (.int .i64 (bl : Int)))
    (first | exact ⟨c0, c1⟩ | go_keep)
    (first | (go_at_call 20; refine (HW3.out _).mono ?_; rintro e w3 ⟨rfl, rfl⟩))
  have hbd : Below w2.heap.size w2 w2.drew := below_drewN (Below.refl _ _) 1
  have c0 := keeps hbd c0
  have c1 := keeps hbd c1
  have c2 := keeps hbd c2
  have c3 := keeps hbd c3
  have HB3 := hid (bel_step HB2.out hbd)
  have HZ3 := hid (show zeroP w2.drew (w.heap.size + 1) from HZ2.out)
  have HS3 := hid (show w.heap.size + 2 ≤ w2.drew.heap.size from Nat.le_trans HS2.out hbd.size)
  clear HB2 HZ2 HS2 hbd HW3 hmul
  generalize w2.drew = w3 at *
  have hO : IntKind.i64.wrap ((SB : Int) + (BW : Int)) = ((SB + BW : Nat) : Int) := (IntWalk.i64_in _ (by omega)).trans (by omega)
  have hO67 : SB + BW ≤ 67 := by omega
  generalize hOe : SB + BW = O at *
  have HOe := hid hOe
  clear hOe
  have hmk : ∀ w, (Instr.makeSlice 53 (.int .i64 (O : Int)) (.int .i64 (O : Int))).run Tryz.prog w = .ok (.slice (some ⟨w.heap.size, 0, none⟩) O O) (w.alloc (.cells (madeCells #[.slice none 0 0] O) 54)) := fun w => run_make_row' (P := Tryz.prog) 53 54 (.slice none 0 0) 24 Tryz.underlying53 Tryz.infoBytes rfl .i64 .i64 O (by omega) (by omega) w
  go_upto_region 7 with fail
  obtain ⟨w4, hw4⟩ : ∃ w4, w3.alloc (.cells (madeCells #[.slice none 0 0] O) 54) = w4 := ⟨_, rfl⟩
  have hb4 : Below w3.heap.size w3 w4 := by rw [← hw4]; exact bel_alloc _ _
  have hT0 : TBS w4 w3.heap.size w3.heap.size O SZ (fun _ => 0) (fun _ => 0) (fun _ _ => 48) 0 := ⟨by rw [← hw4]; exact (World.rowIs_made w3 (.slice none 0 0) O 54).congr fun i _ => by simp, Nat.le_refl _, fun i hi => by omega, fun i hi => by omega⟩
  rw [hw4]
  have HT0 := hid hT0
  have c0 := keeps hb4 c0
  have c1 := keeps hb4 c1
  have c2 := keeps hb4 c2
  have c3 := keeps hb4 c3
  have HB4 := hid (bel_step HB3.out hb4)
  have HZ4 := hid (show zeroP w4 (w.heap.size + 1) from (hb4.block _ (Array.getElem?_eq_some_iff.1 HZ3.out).1).trans HZ3.out)
  have HC4 := hid (show EBox w4 w.heap.size q bl I ao n cap from ⟨c0, c1, c2, c3⟩)
  clear hw4 hb4 hT0 hmk hO c0 c1 c2 c3 HB3 HZ3
  generalize w3.heap.size = bt at *
  obtain ⟨RP, hRP⟩ : ∃ RP : ByteArray, (⟨(Lib.repeatL [48] SZ).toArray⟩ : ByteArray) = RP := ⟨_, rfl⟩
  have hRs : RP.size = SZ := by rw [← hRP, ← ba_len, rep_zeros]; simp
  have HRc := hid (fun X => conv_row X RP (by rw [hRs]; unfold maxLen; omega) (fun _ => 48) (fun m hm => by rw [hRs] at hm; rw [← hRP, rep_zeros]; simp [hm]))
  rw [hRs] at HRc
  have HRp := hid (fun X => Tryz.strings_Repeat ⟨#[48]⟩ SZ X (by omega) (by show 1 * SZ ≤ 140737488355328; omega))
  rw [hRP] at HRp
  clear hRP hRs
  go_wp2_with fail
  generalize IntKind.i64.wrap ((SB : Int) + (BW : Int)) = OV at *
  go_loopw [47] (fun i wr => ∃ (k : Nat) (g cp : Nat → Nat), k ≤ O ∧ i = .int .i64 (k : Int) ∧ TBS wr bt bt O SZ g cp (fun _ _ => 48) k ∧ zeroP wr (w.heap.size + 1) ∧ Hid (EBox wr w.heap.size q bl I ao n cap) ∧ Below w.heap.size w wr) (fun i _ => O - (intOf i).toNat)
  case atStart => exact ⟨0, _, _, Nat.zero_le _, rfl, HT0.out, HZ4.out, HC4, HB4.out⟩
  case round =>
    obtain ⟨k, g, cp, hk, rfl, hT, hZ, HC, hb⟩ := hrel
    have HT := hid hT
    have HZ := hid hZ
    have HB := hid hb
    have hbt := hT.o.lt
    have HBt := hid hbt
    clear hT hZ hb hbt
    rename World => wr
    by_cases hlt : k < O
    · go_upto_region 11 with (first
        | (go_at_call 21; refine (HRp.out _).mono ?_; rintro e w5 ⟨rfl, hb5⟩; obtain ⟨w6, cn, hconv, hb6, hcn1, hcn2, hrow⟩ := HRc.out w5; have HB6 := hid (bel_step hb5 hb6); have hT6 := (HT.out.below HB6.out); have k1 := hT6.o.cell hlt; have kf := hT6.o.frozen k; have HRw := hid (And.intro hrow (And.intro hb5.size (And.intro hcn1 hcn2))); clear hb5 hb6 hT6 hrow))
      clear hconv k1 kf
      have HT7 := hid (HT.out.push hlt HB6.out HRw.out.2.1 (by have := HBt.out; omega) HRw.out.1 HRw.out.2.2.1 HRw.out.2.2.2)
      have HZ7 := hid (show zeroP (w6.setCell ⟨bt, k, none⟩ (.slice (some ⟨w5.heap.size, 0, none⟩) SZ cn)) (w.heap.size + 1) from (Below.heap_setCell _ _ _ _ (by show w.heap.size + 1 ≠ bt; have := HS3.out; omega)).trans ((HB6.out.block _ (Array.getElem?_eq_some_iff.1 HZ.out).1).trans HZ.out))
      have HC7 := hid ((HC.out.below HB6.out).set (a := ⟨bt, k, none⟩) (by show w.heap.size ≠ bt; have := HS3.out; omega) (.slice (some ⟨w5.heap.size, 0, none⟩) SZ cn))
      have HB7 := hid ((HB.out.trans (HB6.out.mono HB.out.size)).setCell (p := ⟨bt, k, none⟩) (by show w.heap.size ≤ bt; have := HS3.out; omega) (.slice (some ⟨w5.heap.size, 0, none⟩) SZ cn))
      go_wp2
      go_roundw
      case rel => exact ⟨k + 1, _, _, by omega, by go_num, HT7.out, HZ7.out, HC7, HB7.out⟩
      case measure => simp [intOf]; omega
    · obtain rfl : O = k := by omega
      clear HT0 HZ4 HB4 HC4 HRp HRc
      have c3 := HC.out.c3
      go_wp2_with fail
      clear c3
      obtain ⟨P, hP⟩ : ∃ P : Nat, 2 ^ IB = P := ⟨_, rfl⟩
      have HPe := hid hP
      have hP8 : P ≤ 8 := by rw [← hP]; exact Nat.le_trans (Nat.pow_le_pow_right (by decide) hIB) (by decide)
      have HPi := hid (show I ≤ P by have := HFt.out.2; rw [hP] at this; exact this)
      have HPn := hid (show n * P ≤ SZ by rw [← HSz.out, Nat.pow_add, hP]; exact Nat.mul_le_mul_right _ (HFt.out.1))
      clear hP
      have HT1 := hid (HT.out.congr (f' := tabAt rows q n I P 0 0 0) fun i _ m _ => (tabAt_zero rows q n I P i m).symm)
      go_loopw [60] (fun i wb => ∃ s : Nat, s ≤ n ∧ i = .int .i64 (s : Int) ∧ Hid (TBS wb bt bt O SZ g cp (tabAt rows q n I P s 0 0) O) ∧ Hid (zeroP wb (w.heap.size + 1)) ∧ Hid (EBox wb w.heap.size q bl I ao n cap) ∧ Hid (Below w.heap.size w wb)) (fun i _ => n - (intOf i).toNat)
      case atStart => exact ⟨0, Nat.zero_le _, rfl, HT1, HZ, HC, HB⟩
      case round =>
        obtain ⟨s, hs, rfl, HTs, HZs, HCs, HBs⟩ := hrel
        rename World => wb
        by_cases hsn : s < n
        · obtain ⟨row, hrow⟩ := some_of_lt (show s < rows.length by rw [HN.out]; exact hsn)
          obtain ⟨br, o, r, cr, rfl, n1, hSl⟩ := HM.out.row hrow
          have n1 := keeps HBs.out n1
          have hrl : row.length = I := by have := HV.out.v.len row (List.mem_of_getElem? hrow); omega
          have HR := hid hrow
          have HSl := hid hSl
          clear hrow hSl
          go_wp2_with fail
          clear n1
          go_loopw [67] (fun i wc => ∃ k : Nat, k ≤ row.length ∧ i = .int .i64 (k : Int) ∧ Hid (TBS wc bt bt O SZ g cp (tabAt rows q n I P s k 0) O) ∧ Hid (zeroP wc (w.heap.size + 1)) ∧ Hid (EBox wc w.heap.size q bl I (some ⟨br, o, none⟩) n cap) ∧ Hid (Below w.heap.size w wc)) (fun i _ => row.length - (intOf i).toNat)
          case atStart => exact ⟨0, Nat.zero_le _, rfl, HTs, HZs, HCs, HBs⟩
          case round =>
            obtain ⟨k, hk, rfl, HTk, HZk, HCk2, HBk⟩ := hrel
            rename World => wc
            by_cases hkn : k < row.length
            · obtain ⟨x, hx⟩ := some_of_lt hkn
              obtain ⟨b2, o2, rfl, m1, m2⟩ := (HSl.out.below HBk.out).cl hx
              have hmr := List.mem_of_getElem? HR.out
              have hmx := List.mem_of_getElem? hx
              have HX := hid hx
              have HCx := hid (fun X => HCe.out x X (HV.out.v.to0 row hmr x hmx) (by have := HV.out.v.to1 row hmr x hmx; have := HN.out; omega) (HV.out.v.wd row hmr x hmx) (by have := HV.out.v.sz row hmr x hmx; omega))
              have HBL := hid (show (cellBits q n x).length = O by rw [cellBits_len, HWe.out.2.2, HWe.out.1, show x.word.size = bl by have := HV.out.v.sz row hmr x hmx; omega, HBe.out, HOe.out])
              clear hx hmr hmx
              go_upto_region 18 with fail
              obtain ⟨wx, hwx⟩ : ∃ wx, wc.alloc (.cells #[.int .i64 x.st, .string x.word] 45) = wx := ⟨_, rfl⟩
              obtain ⟨hbx, y0, y1⟩ := boxedC hwx
              rw [hwx]
              have HTx := hid (HTk.out.below hbx)
              have HZx := hid (show zeroP wx (w.heap.size + 1) from zeroP_below HZk.out hbx)
              have HCx2 := hid (HCk2.out.below hbx)
              have HBx := hid (HBk.out.trans (hbx.mono HBk.out.size))
              obtain ⟨c0, c1, c2, c3⟩ := HCx2.out
              clear hwx hbx m1 m2
              have hcb : (cellBits q n x).length = O := HBL.out
              go_upto_region 19 with (go_at_call 22; refine (HCx.out _).mono ?_; rintro e w8 ⟨vb, rfl, hob, hb8⟩; obtain ⟨ab, cb, rfl⟩ := own_slice hob; have HOb := hid hob; have HT8 := hid (HTx.out.below hb8); have HZ8 := hid (show zeroP w8 (w.heap.size + 1) from zeroP_below HZx.out hb8); have HC8 := hid (HCx2.out.below hb8); have HB8 := hid (HBx.out.trans (hb8.mono HBx.out.size)); have HGx := hid (fun i (hi : i < O) => (HTx.out.r i hi).1.lt); clear hob hb8)
              rw [hcb] at HOb
              clear c0 c1 c2 c3 y0 y1 hcb
              generalize hbits : cellBits q n x = BT at *
              have HBT := hid hbits
              clear hbits
              generalize wx.heap.size = Bb at *
              go_wp2_with fail
              go_loopw [76] (fun i wd => ∃ j : Nat, j ≤ O ∧ i = .int .i64 (j : Int) ∧ Hid (TBS wd bt bt O SZ g cp (tabAt rows q n I P s k j) O) ∧ Hid (zeroP wd (w.heap.size + 1)) ∧ Hid (EBox wd w.heap.size q bl I (some ⟨br, o, none⟩) n cap) ∧ Hid (Below w.heap.size w wd) ∧ Hid (wd.ownsRow Bb 5 1 (.slice ab O cb) O (u8s BT))) (fun i _ => O - (intOf i).toNat)
              case atStart => exact ⟨0, Nat.zero_le _, rfl, HT8, HZ8, HC8, HB8, HOb⟩
              case round =>
                obtain ⟨j, hj, rfl, HTj, HZj, HCj, HBj, HOj⟩ := hrel
                rename World => wd
                by_cases hjn : j < O
                · have hjb : j < BT.length := by rw [HBL.out]; exact hjn
                  obtain ⟨gb, ob, rfl, cv⟩ := (show Sl 1 wd (.slice ab O cb) O (u8s BT) from Sl.of_owns HOj.out).cell (u8s_get hjb)
                  have ct := HTj.out.o.cell hjn
                  simp only [if_pos hjn] at ct
                  obtain ⟨Q, hQ⟩ : ∃ Q : Nat, s * P = Q := ⟨_, rfl⟩
                  have hm : Q + k < SZ := by
                    have h1 := Nat.mul_le_mul_right P (show s + 1 ≤ n by omega)
                    rw [Nat.succ_mul, hQ] at h1
                    have h2 := HPn.out
                    have h3 := HPi.out
                    omega
                  obtain ⟨cm, fm⟩ := (HTj.out.r j hjn).1.cell hm
                  have hgj := (HTj.out.r j hjn).2
                  have hV : 0 ≤ bitN (BT.getD j false) ∧ bitN (BT.getD j false) ≤ 1 := by cases BT.getD j false <;> decide
                  have hsum : IntKind.u8.wrap (48 + bitN (BT.getD j false)) = ((tabC (BT.getD j false)).toNat : Int) := by cases BT.getD j false <;> decide
                  have hshl : IntKind.i64.wrap ((s : Int) * 2 ^ IB) = (Q : Int) := by
                    have h2 : (s : Int) * 2 ^ IB = (Q : Int) := by rw [← hQ, ← HPe.out]; simp
                    rw [h2]; exact IntWalk.i64_in _ (by omega)
                  have hor : bits .or .i64 (Q : Int) (k : Int) = ((Q + k : Nat) : Int) := by
                    rw [or_small Q k (by omega) (by omega)]
                    have h3 := Nat.two_pow_add_eq_or_of_lt (i := IB) (b := k) (by rw [HPe.out]; have := HPi.out; omega) s
                    rw [HPe.out, Nat.mul_comm, hQ] at h3
                    rw [← h3]
                  have HSet := hid ((HTj.out.set hjn (Q + k) (tabC (BT.getD j false))).congr (f' := tabAt rows q n I P s k (j + 1)) fun i hi m hm => by
                    have h4 := tabAt_bit (q := q) (n := n) (inp := I) (P := P) (J := j) (i := i) (m := m) hsn (by omega) HPi.out HR.out HX.out
                    rw [HBT.out, hQ] at h4
                    exact h4)
                  have HZs2 := hid (show zeroP (wd.setCell ⟨g j, Q + k, none⟩ (.int .u8 ((tabC (BT.getD j false)).toNat : Int))) (w.heap.size + 1) from (Below.heap_setCell _ _ _ _ (by show w.heap.size + 1 ≠ g j; have := HS3.out; omega)).trans HZj.out)
                  have HCs2 := hid (HCj.out.set (a := ⟨g j, Q + k, none⟩) (by show w.heap.size ≠ g j; have := HS3.out; omega) (.int .u8 ((tabC (BT.getD j false)).toNat : Int)))
                  have HBs2 := hid (HBj.out.setCell (p := ⟨g j, Q + k, none⟩) (by show w.heap.size ≤ g j; have := HS3.out; omega) (.int .u8 ((tabC (BT.getD j false)).toNat : Int)))
                  have HOs2 := hid (ownsRow_setCell_below (a := ⟨g j, Q + k, none⟩) HOj.out (HGx.out j hjn) (.int .u8 ((tabC (BT.getD j false)).toNat : Int)))
                  have HHg := hid hgj
                  obtain ⟨_, hgn, hcp1, hcp2⟩ := hgj
                  generalize ((tabC (BT.getD j false)).toNat : Int) = CV at *
                  generalize bitN (BT.getD j false) = VB at *
                  generalize (tabAt rows q n I P s k j j (Q + k)) = OLD at *
                  generalize g j = GJ at *
                  generalize cp j = CJ at *
                  have hcp3 : CJ ≤ 9223372036854775807 := by unfold maxLen at hcp2; omega
                  clear hQ
                  obtain ⟨wy, hwy⟩ : ∃ wy, wd.setCell ⟨GJ, Q + k, none⟩ (.int .u8 CV) = wy := ⟨_, rfl⟩
                  have HWy := hid hwy
                  rw [hwy] at HSet HZs2 HCs2 HBs2 HOs2
                  have HD := hid (show Below wy.heap.size wy wy.drew from below_drewN (Below.refl _ _) 1)
                  clear hwy
                  go_upto_region 21 with fail
                  go_region
                  rw [HWy.out]
                  go_wp2
                  go_roundw
                  case rel => exact ⟨j + 1, by omega, by go_num, hid (HSet.out.below HD.out), HZs2, hid (HCs2.out.below HD.out), hid (HBs2.out.trans (HD.out.mono HBs2.out.size)), HOs2⟩
                  case measure => simp [intOf]; omega
                · obtain rfl : O = j := by omega
                  have HT9 := hid (HTj.out.congr (f' := tabAt rows q n I P s (k + 1) 0) fun i hi m _ => tabAt_cell hi)
                  go_wp2
                  go_roundw
                  case rel => exact ⟨k + 1, by omega, by go_num, HT9, HZj, HCj, HBj⟩
                  case measure => simp [intOf]; omega
            · obtain rfl : k = row.length := by omega
              have HT9 := hid (HTk.out.congr (f' := tabAt rows q n I P (s + 1) 0 0) fun i _ m _ => by rw [hrl]; exact tabAt_row)
              go_wp2
              go_roundw
              case rel => exact ⟨s + 1, by omega, by go_num, HT9, HZk, HCk2, HBk⟩
              case measure => simp [intOf]; omega
        · obtain rfl : n = s := by omega
          have HT2 := hid (HTs.out.congr (f' := tabI rows q n I IB) fun i _ m _ => by rw [← HPe.out]; exact tabAt_end)
          clear HTs HT1 HT HC HCs HB HZ HM HCe
          obtain ⟨NN, hNN⟩ : ∃ NN : Nat, SB + IB = NN := ⟨_, rfl⟩
          obtain ⟨TB, hTB⟩ : ∃ TB : List (List UInt8), (List.range O).map (fun i => tabL rows q n I SB IB i) = TB := ⟨_, rfl⟩
          have HEp := hid (show encP q bl I rows = mkAll NN TB by
            unfold encP encTabs
            rw [HN.out, HWe.out.1, HWe.out.2.1, HWe.out.2.2, HBe.out, HOe.out, hTB, hNN])
          have HSz2 := hid (show 2 ^ NN = SZ by rw [← hNN]; exact HSz.out)
          have HTl := hid (show TB.length = O by rw [← hTB]; simp)
          have HTk := hid (fun k (h : k < O) => show TB[k]? = some (tabL rows q n I SB IB k) by rw [← hTB]; simp [h])
          have HTo := hid (fun t (h : t ∈ TB) => show t.length = 2 ^ NN ∧ ∀ c ∈ t, c = 48 ∨ c = 49 by
            rw [← hTB] at h
            obtain ⟨i, _, rfl⟩ := List.mem_map.1 h
            rw [← hNN]
            exact ⟨tabL_len .., fun c hc => tabL_bits _ _ _ _ _ _ _ c hc⟩)
          have HAk := hid (mkAll_take HTo.out)
          have HStep := hid (fun k (h : k < O) => show mkAll NN (TB.take (k + 1)) = mkOut NN (mkAll NN (TB.take k)) (tabL rows q n I SB IB k) by rw [take_snoc (HTk.out k h), mkAll_snoc])
          have hNw : IntKind.i64.wrap ((SB : Int) + (IB : Int)) = (NN : Int) := (IntWalk.i64_in _ (by omega)).trans (by omega)
          have HLt := hid (fun k h => show (mkAll NN (TB.take k)).1.code.length ≤ 20000 from by
            have h1 := (HAk.out k h).len
            have h2 : (TB.take k).length ≤ 67 := by rw [List.length_take]; have := HTl.out; omega
            have h3 := Nat.mul_le_mul h2 (show 4 * 2 ^ NN ≤ 256 by rw [HSz2.out]; omega)
            omega)
          have hNN6 : NN ≤ 6 := by omega
          clear hTB
          have hmm := @run_makeMap Tryz.prog
          go_upto_region 26 with fail
          obtain ⟨w2, hw2⟩ : ∃ w2, (wb.alloc (.map #[] 0)).alloc (.cells #[.int .i64 NN, .slice none 0 0, .slice none 0 0, .map (some wb.heap.size)] 60) = w2 := ⟨_, rfl⟩
          obtain ⟨hs2, hM2, hb2⟩ := MS.start wb NN w2 hw2
          rw [hw2]
          have HOS0 := hid (show OS w w2 (wb.heap.size + 2) (wb.heap.size + 1) wb.heap.size NN O SZ bt (w.heap.size + 1) g cp (tabI rows q n I IB) (0 * (2 * SZ)) 0 (.slice none 0 0) (mkAll NN (TB.take 0)) from
            ⟨by rw [Nat.zero_mul]; exact hM2, World.ownsRow_nil _ _ _ _, HT2.out.below hb2, zeroP_below HZs.out hb2, HBs.out.trans (hb2.mono HBs.out.size), HT2.out.o.lt, fun i hi => (HT2.out.r i hi).1.lt, HZs.out.lt, Nat.lt_succ_self _, HBs.out.size⟩)
          clear hw2 hM2 hb2 hs2 HZs HBs HT2 hmm hNw
          generalize wb.heap.size = MB at *
          go_wp2_with fail
          go_loopw [105] (fun i we => ∃ (k : Nat) (vo : Value), k ≤ O ∧ i = .int .i64 (k : Int) ∧ Hid (OS w we (MB + 2) (MB + 1) MB NN O SZ bt (w.heap.size + 1) g cp (tabI rows q n I IB) (k * (2 * SZ)) k vo (mkAll NN (TB.take k)))) (fun i _ => O - (intOf i).toNat)
          case atStart => exact ⟨0, _, Nat.zero_le _, rfl, HOS0⟩
          case round =>
            obtain ⟨k, vo, hk, rfl, HOS⟩ := hrel
            clear HOS0
            rename World => we
            by_cases hlt : k < O
            · obtain ⟨ao2, co2, rfl⟩ := own_slice HOS.out.ow
              have ct := HOS.out.tb.o.cell hlt
              simp only [if_pos hlt] at ct
              have hbr := (HOS.out.tb.r k hlt).1
              have hcp := (HOS.out.tb.r k hlt).2.2.2
              have hconv := conv_str we (g k) SZ (cp k) _ hbr
              have hTe : (List.range SZ).map (tabI rows q n I IB k) = tabL rows q n I SB IB k := by unfold tabL; rw [HSz.out]
              rw [hTe] at hconv
              have HSt := hid (HStep.out k hlt)
              have HTm := hid (HTo.out _ (List.mem_of_getElem? (HTk.out k hlt)))
              have HLk := hid (HLt.out k (by rw [HTl.out]; omega))
              have HGk := hid (HAk.out k (by rw [HTl.out]; omega)).good
              clear hbr hTe
              generalize tabL rows q n I SB IB k = TK at *
              generalize mkAll NN (TB.take k) = p at *
              obtain ⟨st, l⟩ := p
              have HBit := hid (bit_top NN (MB + 2) (MB + 1) MB SZ (k * (2 * SZ)) _ TK st we hNN6 HSz2.out HOS.out.ms HGk.out (by rw [HTm.out.1]; exact HSz2.out) HTm.out.2 (by have := HLk.out; simp only at this; omega) (by have := Nat.mul_le_mul (show k ≤ 67 by omega) (show 2 * SZ ≤ 128 by omega); omega))
              obtain ⟨⟨x, st2⟩, hR⟩ : ∃ R, mkBit NN NN 0 TK st = R := ⟨_, rfl⟩
              rw [hR] at HBit
              dsimp only at HBit
              have HR := hid hR
              clear hR
              generalize hGk : g k = GK at *
              generalize hCk : cp k = CK at *
              have hck2 : CK ≤ 9223372036854775807 := by have := hcp.2; unfold maxLen at this; omega
              have hck1 := hcp.1
              clear hGk hCk
              go_upto_region 30 with (go_at_call 23; refine (HBit.out).mono ?_; rintro e w7 ⟨rfl, hM7, hF7⟩; have HOS7 := hid (HOS.out.call hM7 hF7); clear hM7 hF7)
              clear hconv ct HBit hcp
              have HSt2 := hid (show mkAll NN (TB.take (k + 1)) = (st2, l ++ [x]) by rw [HSt.out]; unfold mkOut; rw [HR.out])
              clear HSt HR
              obtain ⟨c2, f2⟩ := HOS7.out.ms.c2
              have hB7 : MB + 2 ≤ w7.heap.size := HOS7.out.ms.lb
              have how := HOS7.out.ow
              go_upto_region 31 with (at_builtin; refine wpList_push w7 rfl _ _ 26 rfl (MB + 2) 3 (.int .i64 0) 1 8 Tryz.underlying26 Tryz.infoInt rfl (by decide) (.slice ao2 k co2) k (ints l) rfl how #[.int .i64 x] rfl (oneCell_int _ _) rfl (by unfold maxLen; omega) (by omega) hB7 ?_; intro g1 gc1 w8 ho8 hg8 hb8; obtain ⟨k1, kf⟩ := (HOS7.out.ms.grownO how hg8).c2; have HOS8 := hid (HOS7.out.push hg8 hb8 ho8))
              clear k1 kf c2 f2 how ho8 hg8 hb8
              have HOS9 := hid (show OS w (w8.setCell ⟨MB + 1, 2, none⟩ (.slice (some ⟨g1, 0, none⟩) (k + 1) gc1)) (MB + 2) (MB + 1) MB NN O SZ bt (w.heap.size + 1) g cp (tabI rows q n I IB) ((k + 1) * (2 * SZ)) (k + 1) (.slice (some ⟨g1, 0, none⟩) (k + 1) gc1) (mkAll NN (TB.take (k + 1))) by rw [HSt2.out, Nat.succ_mul]; exact HOS8.out)
              go_wp2
              go_roundw
              case rel => exact ⟨k + 1, _, by omega, by go_num, HOS9⟩
              case measure => simp [intOf]; omega
            · obtain rfl : O = k := by omega
              have HE := hid (show mkAll NN (TB.take O) = encP q bl I rows by rw [HEp.out, ← HTl.out, List.take_length])
              have hlen : (encP q bl I rows).1.code.length ≤ 20000 := by have := HLt.out O (by rw [HTl.out]; omega); rw [HE.out] at this; exact this
              have hol : (encP q bl I rows).2.length = O := by
                have := (HAk.out O (by rw [HTl.out]; omega)).olen
                rw [HE.out, List.length_take, HTl.out] at this
                omega
              rw [HE.out] at HOS
              have HOl := hid hol
              obtain ⟨p, hp⟩ : ∃ p, encP q bl I rows = p := ⟨_, rfl⟩
              rw [hp] at HE HOS HOl hlen hol
              have HPp := hid hp
              clear hp
              clear HE HLt HAk HTl HTk HTo HStep HEp
              obtain ⟨ao2, co2, rfl⟩ := own_slice HOS.out.ow
              obtain ⟨ac, cc, c0, c1, c3, f1, h5, h6, hlt2, hcc1, hcc2⟩ := HOS.out.ms.c
              have HCo := hid h6
              obtain ⟨c2, f2⟩ := HOS.out.ms.c2
              obtain ⟨⟨z0, z1, z2⟩, g0, g1, g2⟩ := HOS.out.z.c
              clear h5 h6 f1 f2 hlt2 hol
              generalize hL : p.1.code.length = L at *
              have hzb : w.heap.size + 1 < MB + 2 := by have := HOS.out.b3; omega
              go_wp2_with fail
              obtain ⟨wz, hwz⟩ : ∃ wz, (((we.setCell ⟨w.heap.size + 1, 0, none⟩ (.int .i64 (NN : Int))).setCell ⟨w.heap.size + 1, 1, none⟩ (.slice ac L cc)).setCell ⟨w.heap.size + 1, 2, none⟩ (.slice ao2 O co2)) = wz := ⟨_, rfl⟩
              have r0 : wz.cell? ⟨w.heap.size + 1, 0, none⟩ = some (.int .i64 (NN : Int)) := by rw [← hwz, World.cell?_setCell_other _ _ _ _ (by simp), World.cell?_setCell_other _ _ _ _ (by simp)]; exact World.cell?_setCell_same _ _ _ z0
              have r1 : wz.cell? ⟨w.heap.size + 1, 1, none⟩ = some (.slice ac L cc) := by rw [← hwz, World.cell?_setCell_other _ _ _ _ (by simp)]; exact World.cell?_setCell_same _ _ _ ((World.cell?_setCell_other _ _ _ _ (by simp)).trans z1)
              have r2 : wz.cell? ⟨w.heap.size + 1, 2, none⟩ = some (.slice ao2 O co2) := by rw [← hwz]; exact World.cell?_setCell_same _ _ _ ((World.cell?_setCell_other _ _ _ _ (by simp)).trans ((World.cell?_setCell_other _ _ _ _ (by simp)).trans z2))
              have HCz := hid (show wz.ownsRow (MB + 2) 47 3 (.slice ac L cc) L (icells p.1.code) by rw [← hwz]; exact ownsRow_setCell_below (ownsRow_setCell_below (ownsRow_setCell_below HCo.out hzb _) hzb _) hzb _)
              have HOz := hid (show wz.ownsRow (MB + 2) 3 1 (.slice ao2 O co2) O (ints p.2) by rw [← hwz]; exact ownsRow_setCell_below (ownsRow_setCell_below (ownsRow_setCell_below HOS.out.ow hzb _) hzb _) hzb _)
              have HBz := hid (show Below w.heap.size w wz by rw [← hwz]; exact ((HOS.out.bl.setCell (p := ⟨w.heap.size + 1, 0, none⟩) (by show w.heap.size ≤ w.heap.size + 1; omega) _).setCell (p := ⟨w.heap.size + 1, 1, none⟩) (by show w.heap.size ≤ w.heap.size + 1; omega) _).setCell (p := ⟨w.heap.size + 1, 2, none⟩) (by show w.heap.size ≤ w.heap.size + 1; omega) _)
              rw [hwz]
              clear hwz z0 z1 z2 g0 g1 g2 c0 c1 c2 c3 HOS
              refine bodyPost_ret (v := .tuple #[.agg #[.int .i64 (NN : Int), .slice ac L cc, .slice ao2 O co2], .int .i64 0]) ?_ rfl ?_
              · simp [results, Tryz.results7, go_sem, r0, r1, r2]
              · rw [HPp.out, hL, HOl.out, HN.out, HWe.out.1, HWe.out.2.1, hNN]
                exact ⟨_, _, rfl, Sl.of_owns HCz.out, Sl.of_owns HOz.out, HBz.out⟩
end Go.Proofs.YtcdfghogmdhfcaaGreatDoor

namespace Go.Proofs.YtcdfghogmdhfcaaGreatDoor
open Go.RowKit
set_option linter.unusedVariables false

theorem encTabs_ok (q bl I : Nat) (rows : List (List Cl)) : ∀ t ∈ encTabs q bl I rows, t.length = 2 ^ (wid rows.length + wid I) ∧ ∀ c ∈ t, c = 48 ∨ c = 49 := by
  intro t h
  obtain ⟨i, _, rfl⟩ := List.mem_map.1 h
  exact ⟨tabL_len .., fun c hc => tabL_bits _ _ _ _ _ _ _ c hc⟩
theorem encP_ok (q bl I : Nat) (rows : List (List Cl)) : AllOk (wid rows.length + wid I) (encTabs q bl I rows) (encP q bl I rows) := mkAll_ok (encTabs_ok q bl I rows)
theorem encP_len (q bl I : Nat) (rows : List (List Cl)) : (encP q bl I rows).2.length = wid rows.length + bl * wid q := by rw [(encP_ok q bl I rows).olen]; simp [encTabs]
theorem SmallE.wids {q bl I : Nat} {rows : List (List Cl)} (h : SmallE q bl I rows) : wid rows.length ≤ 3 ∧ wid I ≤ 3 ∧ wid q ≤ 4 ∧ rows.length ≤ 2 ^ wid rows.length ∧ I ≤ 2 ^ wid I := by
  have h1 := h.v.r1
  have h2 := h.n6
  have h3 := h.i6
  have h4 := h.v.i1
  have h5 := h.v.q1
  have h6 := h.v.q16
  obtain ⟨a1, _, _, a2⟩ := wid_fits (show 1 ≤ rows.length by omega) (by omega)
  obtain ⟨b1, _, _, b2⟩ := wid_fits (show 1 ≤ I by omega) (by omega)
  obtain ⟨_, _, c2, _⟩ := wid_fits (show 1 ≤ q by omega) (by omega)
  exact ⟨a2 (by omega), b2 (by omega), c2 (by omega), a1, b1⟩
theorem encP_prog {q bl I : Nat} {rows : List (List Cl)} (h : SmallE q bl I rows) : progErr ((wid rows.length + wid I : Nat) : Int) (encP q bl I rows).1.code (encP q bl I rows).2 = 0 := by
  obtain ⟨w1, w2, w3, _, _⟩ := h.wids
  have hb := h.v.b16
  have hl : (encTabs q bl I rows).length ≤ 67 := by
    have := Nat.mul_le_mul (show bl ≤ 16 by omega) w3
    simp [encTabs]; omega
  have hp : 4 * 2 ^ (wid rows.length + wid I) ≤ 256 := by
    have := Nat.pow_le_pow_right (show 1 ≤ 2 by decide) (show wid rows.length + wid I ≤ 6 by omega)
    omega
  exact (encP_ok q bl I rows).prog (by omega) (by have := Nat.mul_le_mul hl hp; omega) (by omega)
theorem encP_out {q bl I s k : Nat} {rows : List (List Cl)} {row : List Cl} {x : Cl} (h : SmallE q bl I rows) (hs : s < rows.length) (hk : k < I) (hrow : rows[s]? = some row) (hx : row[k]? = some x) : poutsV (binL (wid rows.length) s ++ binL (wid I) k) (encP q bl I rows).1.code (encP q bl I rows).2 = cellBits q rows.length x := by
  obtain ⟨_, _, _, w4, w5⟩ := h.wids
  have hxs : x.word.size = bl := by have := h.v.sz row (List.mem_of_getElem? hrow) x (List.mem_of_getElem? hx); omega
  rw [(encP_ok q bl I rows).run (x := binL (wid rows.length) s ++ binL (wid I) k) (by rw [List.length_append, binL_len, binL_len])]
  unfold encTabs
  rw [List.map_map]
  have hl : (cellBits q rows.length x).length = wid rows.length + bl * wid q := by rw [cellBits_len, hxs]
  apply List.ext_getElem?
  intro i
  rw [List.getElem?_map]
  by_cases hi : i < wid rows.length + bl * wid q
  · rw [List.getElem?_range hi]
    simp only [Option.map_some, Function.comp]
    rw [tabL_at hs hk w4 w5 hrow hx, List.getElem?_eq_getElem (by omega)]
    simp [List.getD_eq_getElem?_getD, hl, hi]
  · rw [List.getElem?_eq_none (by simp; omega), List.getElem?_eq_none (by omega)]
    rfl
end Go.Proofs.YtcdfghogmdhfcaaGreatDoor
