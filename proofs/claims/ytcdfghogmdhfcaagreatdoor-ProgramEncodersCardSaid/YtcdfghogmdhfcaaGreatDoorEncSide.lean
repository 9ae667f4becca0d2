/-
  program.Agree at an encoder and a program that computes its cells.
  program.Encoder at an encoder that is not valid; strings.Contains at a text of noughts; a power of two.
  What the program of an encoder says at ones alone.
  Conditions: The encoder is valid, the program is valid and has the encoder's bits. The numbers asked for a power of two are 1 to 6. The encoder is small.
-/
import Derived.Test.YtcdfghogmdhfcaaGreatDoorEncStepS
import Derived.Test.YtcdfghogmdhfcaaGreatDoorEncMainF
import Derived.Test.YtcdfghogmdhfcaaGreatDoorMg38
import Derived.Test.YtcdfghogmdhfcaaGreatDoorMg10
namespace Go.Proofs.YtcdfghogmdhfcaaGreatDoor
open Go.RowKit Go.Deep
set_option linter.unusedVariables false

set_option maxRecDepth 100000 in
set_option maxHeartbeats 8000000 in
theorem agree_ok (q bl I : Nat) (v vc vo : Value) (rows : List (List Cl)) (c : List Ins) (o : List Int) (w : World) (hM : MC w v rows) (hc : Sl 3 w vc c.length (icells c)) (ho : Sl 1 w vo o.length (ints o)) (hE : eErr (q : Int) (bl : Int) (I : Int) rows = 0) (hV : EncV (q : Int) (bl : Int) (I : Int) rows) (hi64 : I ≤ 64) (he : progErr ((wid rows.length + wid I : Nat) : Int) c o = 0) (hol : o.length = wid rows.length + bl * wid q)
    (hout : ∀ (s k : Nat) (row : List Cl) (x : Cl), s < rows.length → k < I → rows[s]? = some row → row[k]? = some x → poutsV (binL (wid rows.length) s ++ binL (wid I) k) c o = cellBits q rows.length x) :
    Calls Tryz.prog 13 #[.agg #[.int .i64 (q : Int), .int .i64 (bl : Int), .int .i64 (I : Int), v], .agg #[.int .i64 ((wid rows.length + wid I : Nat) : Int), vc, vo]] w fun e w' => e = .returned (.tuple #[.bool true, .int .i64 0]) ∧ Below w.heap.size w w' := by
  have HM := hid hM
  have HC := hid hc
  have HO := hid ho
  have HCk := hid (fun X h1 h2 h3 => check_ok q bl I v vc vo rows c o X h1 h2 h3 hE hV he hol)
  obtain ⟨am, cap, rfl, hm1, hm2⟩ := hM.slice
  have HSt := hid (fun s k row x X hs hk hrow hx h1 h2 => step_any q bl I rows.length cap s k am vc vo c o x X h1 h2 he (by have := hV.q1; omega) (by have := hV.q16; omega) (by have := hV.b16; omega) (by have := hV.i1; omega) hi64 (by have := hV.r1; omega) (by have := hV.r64; omega) (by have := hV.r64; omega) (by omega) hm1 hm2 (hV.to0 row (List.mem_of_getElem? hrow) x (List.mem_of_getElem? hx)) (hV.to1 row (List.mem_of_getElem? hrow) x (List.mem_of_getElem? hx)) (by have := hV.sz row (List.mem_of_getElem? hrow) x (List.mem_of_getElem? hx); omega) (hV.wd row (List.mem_of_getElem? hrow) x (List.mem_of_getElem? hx)) (hout s k row x hs hk hrow hx))
  have HLen := hid (fun r (h : r ∈ rows) => show r.length = I by have := hV.len r h; omega)
  have hn64 := hV.r64
  obtain ⟨ac, cc, rfl, _, hc1, hc2, _⟩ := hc
  obtain ⟨ao, co, rfl, _, ho1, ho2, _⟩ := ho
  clear hM hE hV he hout hol
  generalize wid rows.length + wid I = NN at *
  generalize hn : rows.length = n at *
  have HN := hid hn
  clear hn
  generalize c.length = CL at *
  generalize o.length = OL at *
  go_enter Tryz.func13, Tryz.ntmps13
  go_upto_region 1 with fail
  obtain ⟨w0, hw0⟩ : ∃ w0, (w.alloc (.cells #[.int .i64 (q : Int), .int .i64 (bl : Int), .int .i64 (I : Int), .slice am n cap] 24)).alloc (.cells #[.int .i64 (NN : Int), .slice ac CL cc, .slice ao OL co] 28) = w0 := ⟨_, rfl⟩
  obtain ⟨hb0, hz0, c0, c1, c2, c3, p0, p1, p2⟩ := box2E hw0
  rw [hw0]
  have HB0 := hid hb0
  clear hw0 hb0 hz0
  go_upto_region 5 with (go_at_call 35; refine (HCk.out _ (HM.out.below HB0.out) (HC.out.below HB0.out) (HO.out.below HB0.out)).mono ?_; rintro e w1 ⟨rfl, hb1⟩; have HB1 := hid (bel_step HB0.out hb1); have c0 := keeps hb1 c0; have c1 := keeps hb1 c1; have c2 := keeps hb1 c2; have c3 := keeps hb1 c3; have p0 := keeps hb1 p0; have p1 := keeps hb1 p1; have p2 := keeps hb1 p2; clear hb1)
  have HCs := hid (fun X (h : Below w1.heap.size w1 X) => (show X.cell? ⟨w.heap.size, 0, none⟩ = some (.int .i64 (q : Int)) ∧ X.cell? ⟨w.heap.size, 1, none⟩ = some (.int .i64 (bl : Int)) ∧ X.cell? ⟨w.heap.size, 2, none⟩ = some (.int .i64 (I : Int)) ∧ X.cell? ⟨w.heap.size, 3, none⟩ = some (.slice am n cap) ∧ X.cell? ⟨w.heap.size + 1, 0, none⟩ = some (.int .i64 (NN : Int)) ∧ X.cell? ⟨w.heap.size + 1, 1, none⟩ = some (.slice ac CL cc) ∧ X.cell? ⟨w.heap.size + 1, 2, none⟩ = some (.slice ao OL co) from ⟨keeps h c0, keeps h c1, keeps h c2, keeps h c3, keeps h p0, keeps h p1, keeps h p2⟩))
  clear c0 c1 c2 c3 p0 p1 p2 HCk
  go_wp2_with fail
  go_loopw [20] (fun i wr => ∃ s : Nat, s ≤ n ∧ i = .int .i64 (s : Int) ∧ Hid (Below w1.heap.size w1 wr)) (fun i _ => n - (intOf i).toNat)
  case atStart => exact ⟨0, Nat.zero_le _, rfl, hid (Below.refl _ _)⟩
  case round =>
    obtain ⟨s, hs, rfl, HBs⟩ := hrel
    rename World => ws
    by_cases hsn : s < n
    · obtain ⟨row, hrow⟩ := some_of_lt (show s < rows.length by rw [HN.out]; exact hsn)
      obtain ⟨br, o2, r, cr, rfl, n1, hSl⟩ := HM.out.row hrow
      have n1 := keeps HBs.out (keeps HB1.out n1)
      have hrl : row.length = I := HLen.out row (List.mem_of_getElem? hrow)
      have HR := hid hrow
      have HSl := hid hSl
      clear hrow hSl
      go_wp2_with fail
      clear n1
      go_loopw [27] (fun i wr => ∃ k : Nat, k ≤ row.length ∧ i = .int .i64 (k : Int) ∧ Hid (Below w1.heap.size w1 wr)) (fun i _ => row.length - (intOf i).toNat)
      case atStart => exact ⟨0, Nat.zero_le _, rfl, HBs⟩
      case round =>
        obtain ⟨k, hk, rfl, HBk⟩ := hrel
        rename World => wk
        by_cases hkn : k < row.length
        · obtain ⟨x, hx⟩ := some_of_lt hkn
          obtain ⟨b2, o3, rfl, m1, m2⟩ := (HSl.out.below (bel_step HB1.out HBk.out)).cl hx
          have HStk := hid (fun X h1 h2 => HSt.out s k row x X hsn (by omega) HR.out hx h1 h2)
          clear hx
          go_upto_region 10 with fail
          obtain ⟨wx, hwx⟩ : ∃ wx, wk.alloc (.cells #[.int .i64 x.st, .string x.word] 45) = wx := ⟨_, rfl⟩
          obtain ⟨hbx, y0, y1⟩ := boxedC hwx
          rw [hwx]
          have HBx := hid (bel_step HBk.out hbx)
          obtain ⟨c0, c1, c2, c3, p0, p1, p2⟩ := HCs.out wx HBx.out
          have HDx := hid (show Below wx.heap.size wx wx.drew from below_drewN (Below.refl _ _) 1)
          clear hwx hbx m1 m2
          generalize wk.heap.size = bx at *
          go_region_held3 (fun w' => w'.cell? ⟨w.heap.size, 0, none⟩ = some (.int .i64 (q : Int)) ∧ w'.cell? ⟨w.heap.size, 1, none⟩ = some (.int .i64 (bl : Int)) ∧ w'.cell? ⟨w.heap.size, 2, none⟩ = some (.int .i64 (I : Int)) ∧ w'.cell? ⟨w.heap.size, 3, none⟩ = some (.slice (some ⟨br, o2, none⟩) n cap) ∧ w'.cell? ⟨w.heap.size + 1, 0, none⟩ = some (.int .i64 (NN : Int)) ∧ w'.cell? ⟨w.heap.size + 1, 1, none⟩ = some (.slice ac CL cc) ∧ w'.cell? ⟨w.heap.size + 1, 2, none⟩ = some (.slice ao OL co) ∧ w'.cell? ⟨bx, 0, none⟩ = some (.int .i64 x.st) ∧ w'.cell? ⟨bx, 1, none⟩ = some (.string x.word))
            (first | exact ⟨c0, c1, c2, c3, p0, p1, p2, y0, y1⟩ | go_keep)
            (first | (go_at_call 36; refine (HStk.out _ (HC.out.below (bel_step HB1.out (bel_step HBx.out HDx.out))) (HO.out.below (bel_step HB1.out (bel_step HBx.out HDx.out)))).mono ?_; rintro e w5 ⟨rfl, hb5⟩; have hb5 := bel_step HDx.out hb5; have HB5 := hid (bel_step HBx.out hb5); have c0 := keeps hb5 c0; have c1 := keeps hb5 c1; have c2 := keeps hb5 c2; have c3 := keeps hb5 c3; have p0 := keeps hb5 p0; have p1 := keeps hb5 p1; have p2 := keeps hb5 p2; have y0 := keeps hb5 y0; have y1 := keeps hb5 y1; clear hb5))
          clear c0 c1 c2 c3 p0 p1 p2 y0 y1
          go_wp2
          go_roundw
          case rel => exact ⟨k + 1, by omega, by go_num, HB5⟩
          case measure => simp [intOf]; omega
        · obtain rfl : k = row.length := by omega
          go_wp2
          go_roundw
          case rel => exact ⟨s + 1, by omega, by go_num, HBk⟩
          case measure => simp [intOf]; omega
    · obtain rfl : n = s := by omega
      go_wp2
      go_ret2
      exact ⟨rfl, bel_step HB1.out HBs.out⟩
end Go.Proofs.YtcdfghogmdhfcaaGreatDoor

namespace Go.Proofs.YtcdfghogmdhfcaaGreatDoor
open Go.RowKit Go.Deep
set_option linter.unusedVariables false

set_option maxRecDepth 100000 in
set_option maxHeartbeats 8000000 in
theorem encoder_bad (q bl inp : Int) (v : Value) (rows : List (List Cl)) (w : World) (hM : MC w v rows) (hE : ¬ eErr q bl inp rows = 0) :
    Calls Tryz.prog 7 #[.agg #[.int .i64 q, .int .i64 bl, .int .i64 inp, v]] w fun e w' => e = .returned (.tuple #[.agg #[.int .i64 0, .slice none 0 0, .slice none 0 0], .int .i64 1]) ∧ Below w.heap.size w w' := by
  have HM := hid hM
  have HCk := hid (fun X h => echk_any q bl inp v rows X h)
  obtain ⟨ao, cap, rfl, hc1, hc2⟩ := hM.slice
  have hE2 : (eErr q bl inp rows != 0) = true := by simp [hE]
  clear hM hE
  generalize eErr q bl inp rows = E at *
  generalize hn : rows.length = n at *
  clear hn
  go_enter Tryz.func7, Tryz.ntmps7
  go_upto_region 1 with fail
  obtain ⟨w0, hw0⟩ : ∃ w0, (w.alloc (.cells #[.int .i64 q, .int .i64 bl, .int .i64 inp, .slice ao n cap] 24)).alloc (.cells #[.int .i64 0, .slice none 0 0, .slice none 0 0] 28) = w0 := ⟨_, rfl⟩
  have hb0 : Below w.heap.size w w0 := by rw [← hw0]; exact (bel_alloc _ _).alloc (by simp) _
  have c0 : w0.cell? ⟨w.heap.size, 0, none⟩ = some (.int .i64 q) := by rw [← hw0]; simp
  have c1 : w0.cell? ⟨w.heap.size, 1, none⟩ = some (.int .i64 bl) := by rw [← hw0]; simp
  have c2 : w0.cell? ⟨w.heap.size, 2, none⟩ = some (.int .i64 inp) := by rw [← hw0]; simp
  have c3 : w0.cell? ⟨w.heap.size, 3, none⟩ = some (.slice ao n cap) := by rw [← hw0]; simp
  have hz0 : zeroP w0 (w.heap.size + 1) := by
    have h := heap_alloc_new (w.alloc (.cells #[.int .i64 q, .int .i64 bl, .int .i64 inp, .slice ao n cap] 24)) (.cells #[.int .i64 0, .slice none 0 0, .slice none 0 0] 28)
    rw [World.size_alloc, hw0] at h
    exact h
  rw [hw0]
  have HB0 := hid hb0
  have HZ0 := hid hz0
  clear hw0 hb0 hz0
  go_wp2_with (go_at_call 19; refine (HCk.out _ (HM.out.below HB0.out)).mono ?_; rintro e w1 ⟨rfl, hb1⟩; have HB1 := hid (bel_step HB0.out hb1); obtain ⟨⟨z0, z1, z2⟩, g0, g1, g2⟩ := (zeroP_below HZ0.out hb1).c; clear hb1)
  refine bodyPost_ret (v := .tuple #[.agg #[.int .i64 0, .slice none 0 0, .slice none 0 0], .int .i64 1]) ?_ rfl ⟨rfl, ?_⟩
  · simp [results, Tryz.results7, go_sem, z0, z1, z2]
  · exact ((HB1.out.setCell (by show w.heap.size ≤ w.heap.size + 1; omega) _).setCell (by show w.heap.size ≤ w.heap.size + 1; omega) _).setCell (by show w.heap.size ≤ w.heap.size + 1; omega) _
theorem noOne {l : List UInt8} (h : ∀ c ∈ l, c = 48) : Lib.indexByte l 49 = -1 := by
  induction l with
  | nil => rfl
  | cons b l ih =>
    have hb := h b (by simp)
    subst hb
    rw [Lib.indexByte, ih (fun c hc => h c (by simp [hc]))]
    rfl
/-- Whether a number is a power of two, by its bits. -/
def pw (n : Nat) : Bool := decide (n = 2 ^ wid n)
theorem pw_and {n : Nat} (h1 : 1 ≤ n) (h6 : n ≤ 6) : bits .and .i64 (n : Int) ((n : Int) - 1) = 0 ↔ pw n = true := by
  have h2 : (List.range 7).all (fun n => n == 0 || (decide (bits .and .i64 (n : Int) ((n : Int) - 1) = 0) == pw n)) = true := by decide +kernel
  have h3 := List.all_eq_true.1 h2 n (List.mem_range.2 (by omega))
  have h4 : (n == 0) = false := by simp; omega
  rw [h4, Bool.false_or, beq_iff_eq] at h3
  rw [← h3, decide_eq_true_iff]
end Go.Proofs.YtcdfghogmdhfcaaGreatDoor

namespace Go.Proofs.YtcdfghogmdhfcaaGreatDoor
open Go.RowKit
set_option linter.unusedVariables false

theorem numB_ones : ∀ N : Nat, numB (List.replicate N true) + 1 = 2 ^ N
  | 0 => rfl
  | N + 1 => by
    have := numB_ones N
    rw [List.replicate_succ, numB, if_pos rfl, List.length_replicate, Nat.pow_succ]
    omega
theorem tab_ones {rows : List (List Cl)} {q n inp sb ib i : Nat} (hn : n ≤ 2 ^ sb) (hi : inp ≤ 2 ^ ib) (h : ¬ (n = 2 ^ sb ∧ inp = 2 ^ ib)) : bitT (tabL rows q n inp sb ib i) (numB (List.replicate (sb + ib) true)) = false := by
  have h1 := numB_ones (sb + ib)
  generalize numB (List.replicate (sb + ib) true) = m at *
  rw [Nat.pow_add] at h1
  have hp : 0 < 2 ^ ib := Nat.two_pow_pos ib
  have hs : 0 < 2 ^ sb := Nat.two_pow_pos sb
  have hm : m = (2 ^ sb - 1) * 2 ^ ib + (2 ^ ib - 1) := by
    rw [Nat.sub_mul, Nat.one_mul]
    have := Nat.le_mul_of_pos_left (2 ^ ib) hs
    omega
  have d1 : m / 2 ^ ib = 2 ^ sb - 1 := by rw [hm, Nat.mul_comm, Nat.mul_add_div hp, Nat.div_eq_of_lt (by omega), Nat.add_zero]
  have d2 : m % 2 ^ ib = 2 ^ ib - 1 := by rw [hm, Nat.mul_comm, Nat.mul_add_mod, Nat.mod_eq_of_lt (by omega)]
  have hlt : m < 2 ^ (sb + ib) := by rw [Nat.pow_add]; omega
  unfold bitT tabL
  have : ((List.range (2 ^ (sb + ib))).map (tabI rows q n inp ib i)).getD m 48 = 48 := by
    rw [List.getD_eq_getElem?_getD, List.getElem?_map, List.getElem?_range hlt]
    show tabI rows q n inp ib i m = 48
    unfold tabI
    rw [d1, d2, if_neg]
    omega
  rw [this]
  rfl
theorem ones_out {q bl I : Nat} {rows : List (List Cl)} (h : SmallE q bl I rows) (hp : ¬ (pw rows.length = true ∧ pw I = true)) : ∀ b ∈ poutsV (List.replicate (wid rows.length + wid I) true) (encP q bl I rows).1.code (encP q bl I rows).2, b = false := by
  obtain ⟨_, _, _, w4, w5⟩ := h.wids
  rw [(encP_ok q bl I rows).run (by simp)]
  intro b hb
  obtain ⟨t, ht, rfl⟩ := List.mem_map.1 hb
  obtain ⟨i, _, rfl⟩ := List.mem_map.1 ht
  exact tab_ones w4 w5 (by simpa [pw] using hp)
/-- Ones as a text. -/
def onesB (N : Nat) : ByteArray := ⟨(Lib.repeatL [49] N).toArray⟩
theorem rep_ones (k : Nat) : Lib.repeatL [49] k = List.replicate k 49 := by
  induction k with
  | zero => rfl
  | succ k ih => rw [Lib.repeatL, ih]; rfl
theorem ones_size (N : Nat) : (onesB N).size = N := by rw [← ba_len]; show (Lib.repeatL [49] N).toArray.toList.length = N; rw [rep_ones]; simp
theorem ones_bits (N : Nat) : bitsB (onesB N) = List.replicate N true := by
  unfold bitsB onesB
  rw [rep_ones]
  simp
theorem ones_ok (N : Nat) : okBits (onesB N) = true := by
  unfold okBits onesB
  rw [rep_ones]
  simp
theorem run_ones {n : Nat} {c : List Ins} {o : List Int} (he : progErr (n : Int) c o = 0) : runErr (n : Int) c o (onesB n) = 0 ∧ runStr (n : Int) c o (onesB n) = bitS (poutsV (List.replicate n true) c o) := by
  have h1 : runErr (n : Int) c o (onesB n) = 0 := runErr_zero.2 ⟨he, by rw [ones_size], ones_ok n⟩
  refine ⟨h1, ?_⟩
  unfold runStr
  rw [if_pos h1, ones_bits]
theorem bitS_zero {l : List Bool} (h : ∀ b ∈ l, b = false) : ∀ c ∈ (bitS l).data.toList, c = 48 := by
  intro c hc
  rw [bitS_list] at hc
  obtain ⟨b, hb, rfl⟩ := List.mem_map.1 hc
  rw [h b hb]
  rfl
end Go.Proofs.YtcdfghogmdhfcaaGreatDoor
