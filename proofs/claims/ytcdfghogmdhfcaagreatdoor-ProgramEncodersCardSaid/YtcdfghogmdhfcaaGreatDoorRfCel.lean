/-
  The reference's maker at any depth; its width, binary, number and cell.
  The numbers are small, the cell is valid; at most a hundred bits.
-/
import Derived.Test.YtcdfghogmdhfcaaGreatDoorRfMakB
import Derived.Test.YtcdfghogmdhfcaaGreatDoorEncCel
import Derived.Test.YtcdfghogmdhfcaaGreatDoorMg13
import Derived.Test.YtcdfghogmdhfcaaGreatDoorMg10
namespace Go.Proofs.YtcdfghogmdhfcaaGreatDoor
open Go.RowKit Go.Deep
set_option linter.unusedVariables false

theorem rbit_any (B N : Nat) (ao : Option Addr) (no co : Nat) (hN : N ≤ 24) : ∀ d, BitOk B N ao no co d := by
  intro d
  induction d with
  | zero => exact rbit_step B N ao no co 0 hN (fun d' h => by omega)
  | succ d ih => exact rbit_step B N ao no co (d + 1) hN (fun d' h => by obtain rfl : d = d' := by omega
                                                                         exact ih)
theorem wid_lt {n k : Nat} (h1 : 1 ≤ n) (h2 : n ≤ 64) (hk : k ≤ wid n) : (2 ^ k < n ↔ k < wid n) ∧ 2 ^ k ≤ 64 := by
  have hw := (wid_fits h1 h2).2.1
  have h := List.all_eq_true.1 (show (List.range 64).all (fun m => (List.range 7).all fun k => decide (k ≤ wid (m + 1) → ((2 ^ k < m + 1 ↔ k < wid (m + 1)) ∧ 2 ^ k ≤ 64))) = true by decide +kernel) (n - 1) (List.mem_range.2 (by omega))
  have h3 := of_decide_eq_true (List.all_eq_true.1 h k (List.mem_range.2 (by omega)))
  rw [show n - 1 + 1 = n by omega] at h3
  exact h3 hk
set_option maxRecDepth 100000 in
set_option maxHeartbeats 2000000 in
theorem rwidth_any (n : Nat) (w : World) (h1 : 1 ≤ n) (h2 : n ≤ 64) : Calls Tryz.prog 25 #[.int .i64 (n : Int)] w fun e w' => e = .returned (.int .i64 (wid n : Int)) ∧ w = w' := by
  have HW := hid (fun k hk => wid_lt (k := k) h1 h2 hk)
  have hw6 := (wid_fits h1 h2).2.1
  generalize wid n = W at *
  go_enter Tryz.func25, Tryz.ntmps25
  go_wp2
  go_loop [3] (fun i => ∃ (z : Int) (k : Nat), i = .int .i64 z ∧ Hid (z = (k : Int)) ∧ 0 ≤ z ∧ z ≤ 6 ∧ k ≤ W) (fun i => 7 - (intOf i).toNat)
  case atStart => exact ⟨0, 0, rfl, hid rfl, by decide, by decide, Nat.zero_le _⟩
  case round =>
    obtain ⟨z, k, rfl, HZ, hz0, hz6, hk⟩ := hrel
    obtain ⟨hP1, hP2⟩ := HW.out k hk
    obtain ⟨P, hP⟩ : ∃ P, 2 ^ k = P := ⟨_, rfl⟩
    rw [hP] at hP1 hP2
    have hshl : IntKind.i64.wrap (2 ^ z.toNat) = (P : Int) := by
      have hz := HZ.out
      rw [show z.toNat = k by omega, ← hP]
      have h : ((2 : Int) ^ k) = ((2 ^ k : Nat) : Int) := by simp
      rw [h]
      exact IntWalk.i64_in _ (by omega)
    clear hP
    by_cases hlt : k < W
    · have hPn : (P : Int) < (n : Int) := by have := hP1.2 hlt; omega
      have HW2 := hid (show z + 1 ≤ 6 by have hz := HZ.out; omega)
      have HL := hid hlt
      clear hP1 hlt
      go_wp2
      case roundEnd =>
        have hz := HZ.out
        have hl := HL.out
        exact ⟨⟨z + 1, k + 1, by go_num, hid (by omega), by omega, HW2.out, hl⟩, by simp [intOf]; omega⟩
    · have hPn : ¬ (P : Int) < (n : Int) := fun h => hlt (hP1.1 (by omega))
      have HE := hid (show z = (W : Int) by have hz := HZ.out; omega)
      clear hP1 hlt
      go_wp2
      go_ret
      exact ⟨ret_int HE.out, rfl⟩
theorem conv_chr {w : World} (c : UInt8) : (convert 54 9 (.slice (some ⟨w.heap.size, 0, none⟩) 1 1)).run Tryz.prog (w.alloc (.cells #[.int .u8 (c.toNat : Int)] 5)) = .ok (.string ⟨#[c]⟩) (w.alloc (.cells #[.int .u8 (c.toNat : Int)] 5)) :=
  run_convert_bytes_back (P := Tryz.prog) (w.alloc (.cells #[.int .u8 (c.toNat : Int)] 5)) 54 9 5 ⟨w.heap.size, 0, none⟩ 1 [c] Tryz.underlying54 Tryz.underlying5 Tryz.underlying9 (fun j hj => by
    have hj0 : j = 0 := by simpa using hj
    subst hj0
    exact World.news_of_block (heap_alloc_new w (.cells #[.int .u8 (c.toNat : Int)] 5)) 0 _ (by simp))
theorem cat_chr (c : UInt8) (l : List UInt8) (w : World) (h : l.length ≤ 1000) : (Op.stringOp .add ⟨#[c]⟩ ⟨l.toArray⟩).run Tryz.prog w = .ok (.string ⟨(c :: l).toArray⟩) w := by
  unfold Op.stringOp
  have h1 : (⟨#[c]⟩ : ByteArray).size + (⟨l.toArray⟩ : ByteArray).size = 1 + l.length := by
    show #[c].size + l.toArray.size = _
    simp
  rw [if_neg (by rw [h1]; show ¬ ((1 + l.length : Nat) : Int) > 9223372036854775807; omega)]
  have h2 : (⟨#[c]⟩ : ByteArray) ++ ⟨l.toArray⟩ = ⟨(c :: l).toArray⟩ := by
    apply ByteArray.ext
    rw [ByteArray.data_append]
    simp
  rw [h2]
  rfl
set_option maxRecDepth 100000 in
set_option maxHeartbeats 2000000 in
theorem rbinary_any (a k : Nat) (w : World) (ha : a ≤ 1000000) (hk : k ≤ 100) :
    Calls Tryz.prog 26 #[.int .i64 (a : Int), .int .i64 (k : Int)] w fun e w' => e = .returned (.string (bitS (binL k a))) ∧ Below w.heap.size w w' := by
  go_enter Tryz.func26, Tryz.ntmps26
  go_wp2_with fail
  go_loopw [0, 5, 6] (fun n s i wr => ∃ (j m : Nat) (l : List UInt8), j ≤ k ∧ m ≤ a ∧ n = .int .i64 (m : Int) ∧ s = .string ⟨l.toArray⟩ ∧ i = .int .i64 (j : Int) ∧ l.length ≤ j ∧ Hid (m = a / 2 ^ j ∧ l = (binL j a).map bitC) ∧ Hid (Below w.heap.size w wr)) (fun _ _ i _ => k - (intOf i).toNat)
  case atStart => exact ⟨0, a, [], Nat.zero_le _, Nat.le_refl _, rfl, rfl, rfl, Nat.le_refl _, hid ⟨by simp, rfl⟩, hid (Below.refl _ _)⟩
  case round =>
    obtain ⟨j, m, l, hj, hm, rfl, rfl, rfl, hlj, HE, HB⟩ := hrel
    rename World => wk
    by_cases hlt : j < k
    · have hltI : (j : Int) < (k : Int) := by omega
      have hr : (m : Int) % 2 = ((m % 2 : Nat) : Int) := by omega
      have hq : (m : Int) / 2 = ((m / 2 : Nat) : Int) := by omega
      have hb : bitC (a.testBit j) = UInt8.ofNat (48 + m % 2) := by
        rw [HE.out.1, Nat.testBit_eq_decide_div_mod_eq]
        have h2 : a / 2 ^ j % 2 = 0 ∨ a / 2 ^ j % 2 = 1 := by omega
        rcases h2 with h2 | h2 <;> rw [h2] <;> rfl
      have hdv : (UInt8.ofNat (48 + m % 2)).toNat = 48 + m % 2 := by rw [UInt8.toNat_ofNat']; omega
      have HV := hid (show m / 2 = a / 2 ^ (j + 1) ∧ UInt8.ofNat (48 + m % 2) :: l = (binL (j + 1) a).map bitC by
        refine ⟨by rw [HE.out.1, Nat.div_div_eq_div_mul, Nat.pow_succ], ?_⟩
        rw [binL, List.map_cons, hb, ← HE.out.2])
      have hw8 : IntKind.u8.wrap (48 + ((m % 2 : Nat) : Int)) = ((UInt8.ofNat (48 + m % 2)).toNat : Int) := by rw [hdv, IntKind.wrap_u8]; omega
      have hw9 : (48 + ((m % 2 : Nat) : Int)) % 256 = ((UInt8.ofNat (48 + m % 2)).toNat : Int) := by rw [hdv]; omega
      have HCv := hid (fun X : World => conv_chr (w := X) (UInt8.ofNat (48 + m % 2)))
      have HCt := hid (fun X : World => cat_chr (UInt8.ofNat (48 + m % 2)) l X (by omega))
      have hqm : m / 2 ≤ a := by omega
      clear hb hdv
      generalize UInt8.ofNat (48 + m % 2) = c at *
      generalize m % 2 = r at *
      generalize m / 2 = q at *
      have hconv := HCv.out wk
      have hcat := fun X => HCt.out X
      go_wp2
      go_roundw
      case rel => exact ⟨j + 1, q, c :: l, hlt, hqm, rfl, rfl, by go_num, by simp only [List.length_cons]; omega, HV, hid (HB.out.trans ((bel_alloc wk _).mono HB.out.size))⟩
      case measure => simp [intOf]; omega
    · obtain rfl : k = j := by omega
      have HF := hid (show (⟨l.toArray⟩ : ByteArray) = bitS (binL k a) by rw [HE.out.2]; rfl)
      go_wp2
      go_ret
      exact ⟨by rw [HF.out]; rfl, HB.out⟩
theorem bitS_at {l : List Bool} {k : Nat} (hk : k < l.length) (h : k < (bitS l).size) : ((bitS l)[k].toNat : Int) = 48 + bitN (l.getD k false) := by
  have h2 : (bitS l).data[k]? = some (bitC (l.getD k false)) := by
    rw [← Array.getElem?_toList, bitS_list, List.getElem?_map, List.getD_eq_getElem?_getD, List.getElem?_eq_getElem hk]; rfl
  have h3 : (bitS l).data[k]? = some ((bitS l).data[k]'h) := Array.getElem?_eq_getElem h
  rw [h3] at h2
  have h4 : (bitS l)[k] = bitC (l.getD k false) := Option.some.inj h2
  rw [h4]
  cases l.getD k false <;> rfl
theorem bitS_append (a b : List Bool) : bitS a ++ bitS b = bitS (a ++ b) := by
  apply ByteArray.ext
  rw [ByteArray.data_append]
  simp [bitS]
set_option maxRecDepth 100000 in
set_option maxHeartbeats 2000000 in
theorem rnumber_any (l : List Bool) (w : World) (h30 : l.length ≤ 30) :
    Calls Tryz.prog 66 #[.string (bitS l)] w fun e w' => e = .returned (.int .i64 (numB l : Int)) ∧ w = w' := by
  have hsz := bitS_size l
  have HAt := hid (fun k hk h => bitS_at (l := l) (k := k) hk h)
  go_enter Tryz.func66, Tryz.ntmps66
  go_wp2
  go_loop [3, 4] (fun x i => ∃ k A : Nat, k ≤ l.length ∧ i = .int .i64 (k : Int) ∧ x = .int .i64 (A : Int) ∧ Hid (A = numB (l.take k))) (fun _ i => l.length - (intOf i).toNat)
  case atStart => exact ⟨0, 0, Nat.zero_le _, rfl, rfl, hid rfl⟩
  case round =>
    obtain ⟨k, A, hk, rfl, rfl, HA⟩ := hrel
    by_cases hlt : k < l.length
    · have hbd : A < 1073741824 := by rw [HA.out]; exact numB_take_lt l k h30
      have hs := numB_snoc (l.take k) (l.getD k false)
      rw [← take_snoc (show l[k]? = some (l.getD k false) by simp [hlt]), ← HA.out] at hs
      have hV : 0 ≤ bitN (l.getD k false) ∧ bitN (l.getD k false) ≤ 1 := by cases l.getD k false <;> decide
      have hks : k < (bitS l).size := by rw [hsz]; exact hlt
      have hat := HAt.out k hlt hks
      have HS := hid hs
      clear hs
      generalize bitN (l.getD k false) = VB at *
      have hltI : (k : Int) < (l.length : Int) := by omega
      generalize bitS l = s at *
      have hw1 : IntKind.u8.wrap ((s[k].toNat : Int) - 48) = VB := by rw [hat, IntKind.wrap_u8]; omega
      have hw9 : ((s[k].toNat : Int) - 48) % 256 = VB := by rw [hat]; omega
      have hw10 : (48 + VB - 48) % 256 = VB := by omega
      have hm : IntKind.i64.wrap (2 * (A : Int)) = 2 * (A : Int) := IntWalk.i64_in _ (by omega)
      have ha : IntKind.i64.wrap (2 * (A : Int) + VB) = ((2 * A + VB.toNat : Nat) : Int) := (IntWalk.i64_in _ (by omega)).trans (by omega)
      clear hat
      go_wp2
      case roundEnd => exact ⟨⟨k + 1, 2 * A + VB.toNat, hlt, by go_num, int_eq (by omega), hid HS.out.symm⟩, by simp [intOf]; omega⟩
    · obtain rfl : k = l.length := by omega
      have HF := hid (show A = numB l by rw [HA.out, List.take_length])
      go_wp2
      go_ret
      exact ⟨by rw [HF.out]; rfl, rfl⟩
theorem str_cat (a b : ByteArray) (h : a.size + b.size ≤ 9223372036854775807) (X : World) : (Op.stringOp .add a b).run Tryz.prog X = .ok (.string (a ++ b)) X := by
  unfold Op.stringOp
  have h1 : ¬ (((a.size + b.size : Nat) : Int) > IntKind.i64.max) := by
    show ¬ ((a.size + b.size : Nat) : Int) > 9223372036854775807
    omega
  rw [if_neg h1]
  rfl
set_option maxRecDepth 100000 in
set_option maxHeartbeats 4000000 in
theorem rcell_any (q n : Nat) (bl inp : Int) (ao : Option Addr) (cap : Nat) (c : Cl) (w : World) (hq1 : 1 ≤ q) (hq : q ≤ 16) (hn1 : 1 ≤ n) (hn : n ≤ 64) (hs0 : 0 ≤ c.st) (hs1 : c.st < 1000) (hwd : wordErr (q : Int) c.word = 0) (hsz : c.word.size ≤ 16) :
    Calls Tryz.prog 27 #[.agg #[.int .i64 (q : Int), .int .i64 bl, .int .i64 inp, .slice ao n cap], .agg #[.int .i64 c.st, .string c.word]] w fun e w' => e = .returned (.string (bitS (cellBits q n c))) ∧ Below w.heap.size w w' := by
  obtain ⟨st, hst⟩ : ∃ st : Nat, c.st = st := ⟨c.st.toNat, by omega⟩
  have hwn := (wid_fits hn1 (by omega)).2.1
  have hwq := (wid_fits hq1 (by omega)).2.2.1 hq
  have HWn := hid (fun X => rwidth_any n X hn1 hn)
  have HWq := hid (fun X => rwidth_any q X hq1 (by omega))
  have HBn := hid (fun X => rbinary_any st (wid n) X (by omega) (by omega))
  have HBq := hid (fun d X (hd : d < 1000000) => rbinary_any d (wid q) X (by omega) (by omega))
  have HW := hid (wordErr_zero.1 hwd).2.2.2
  have HC0 := hid (show cellPre q n c 0 = binL (wid n) st by unfold cellPre; rw [hst]; simp)
  have HPl := hid (fun k h => cellPre_len q n c (k := k) h)
  have HPs := hid (fun k ch h => cellPre_succ (q := q) (n := n) (c := c) (k := k) (ch := ch) h)
  have HEnd := hid (show cellPre q n c c.word.size = cellBits q n c by unfold cellPre cellBits; rw [List.take_of_length_le (by rw [ba_len]; exact Nat.le_refl _)])
  rw [hst]
  clear hst hs0 hs1 hwd
  generalize wid n = WN at *
  generalize wid q = WQ at *
  generalize c.word = wd at *
  go_enter Tryz.func27, Tryz.ntmps27
  go_upto_region 1 with fail
  obtain ⟨w0, hw0⟩ : ∃ w0, (w.alloc (.cells #[.int .i64 (q : Int), .int .i64 bl, .int .i64 inp, .slice ao n cap] 24)).alloc (.cells #[.int .i64 (st : Int), .string wd] 45) = w0 := ⟨_, rfl⟩
  have hb0 : Below w.heap.size w w0 := by rw [← hw0]; exact (bel_alloc _ _).alloc (by simp) _
  have c0 : w0.cell? ⟨w.heap.size, 0, none⟩ = some (.int .i64 (q : Int)) := by rw [← hw0]; simp
  have c3 : w0.cell? ⟨w.heap.size, 3, none⟩ = some (.slice ao n cap) := by rw [← hw0]; simp
  have y0 : w0.cell? ⟨w.heap.size + 1, 0, none⟩ = some (.int .i64 (st : Int)) := by rw [← hw0]; simp
  have y1 : w0.cell? ⟨w.heap.size + 1, 1, none⟩ = some (.string wd) := by rw [← hw0]; simp
  rw [hw0]
  have HB0 := hid hb0
  clear hw0 hb0
  go_region_held3 (fun w' => w'.cell? ⟨w.heap.size, 3, none⟩ = some (.slice ao n cap) ∧ w'.cell? ⟨w.heap.size + 1, 0, none⟩ = some (.int .i64 (st : Int))) (first | exact ⟨c3, y0⟩ | go_keep) (first
    | (have _g := HM1.out; clear _g; go_at_call 26; refine (HBn.out _).mono ?_; rintro e w1 ⟨rfl, hb1⟩; have hb1 := (below_drewN (Below.refl w0.heap.size w0) 1).trans hb1; have c0 := keeps hb1 c0; have c3 := keeps hb1 c3; have y0 := keeps hb1 y0; have y1 := keeps hb1 y1; have HB1 := hid (bel_step HB0.out hb1); clear hb1)
    | (go_at_call 25; refine (HWn.out _).mono ?_; rintro e w2 ⟨rfl, rfl⟩; have HM1 := hid True.intro))
  have HY1 := hid y1
  have HC0' := hid c0
  clear c0 c3 y0 y1 HBn HWn
  go_upto_region 3 with fail
  go_loopw [5, 6] (fun s i wr => ∃ k : Nat, k ≤ wd.size ∧ i = .int .i64 (k : Int) ∧ s = .string (bitS (cellPre q n c k)) ∧ Hid (Below w1.heap.size w1 wr)) (fun _ i _ => wd.size - (intOf i).toNat)
  case atStart => exact ⟨0, Nat.zero_le _, rfl, by rw [HC0.out], hid (Below.refl _ _)⟩
  case round =>
    obtain ⟨k, hk, rfl, rfl, HB⟩ := hrel
    rename World => wr
    have c0 := keeps HB.out HC0'.out
    have y1 := keeps HB.out HY1.out
    by_cases hlt : k < wd.size
    · obtain ⟨ch, hch⟩ := some_of_lt (l := wd.data.toList) (k := k) (by rw [ba_len]; exact hlt)
      have hd1 := dig_lt HW.out hch
      have hbt : wd[k] = ch := by
        have h2 : wd.data[k]? = some ch := by rw [← Array.getElem?_toList]; exact hch
        have h3 : wd.data[k]? = some (wd.data[k]'hlt) := Array.getElem?_eq_getElem hlt
        rw [h3] at h2
        exact Option.some.inj h2
      have HI := hid (fun X => rdigit_any ch X)
      rw [hd1.2.1] at HI
      have HP2 := hid (HPs.out k ch hch)
      have hM := HPl.out k hk
      have hkq : k * WQ ≤ 16 * 4 := Nat.mul_le_mul (by omega) hwq
      have hs1 : (bitS (cellPre q n c k)).size + (bitS (binL WQ (dig ch))).size ≤ 9223372036854775807 := by rw [bitS_size, bitS_size, binL_len]; omega
      have HP3 := hid (show bitS (cellPre q n c (k + 1)) = bitS (cellPre q n c k) ++ bitS (binL WQ (dig ch)) by rw [HP2.out, bitS_append])
      have HBd := hid (fun X => HBq.out (dig ch) X (by omega))
      have hltI : (k : Int) < (wd.size : Int) := by omega
      clear hch hd1 hM hkq
      have hcat := str_cat _ _ hs1
      clear hs1
      generalize bitS (cellPre q n c k) = S1 at *
      generalize bitS (binL WQ (dig ch)) = S2 at *
      generalize dig ch = D at *
      go_upto_region 5 with fail
      go_region_held3 (fun w' => w'.cell? ⟨w.heap.size, 0, none⟩ = some (.int .i64 (q : Int)) ∧ w'.cell? ⟨w.heap.size + 1, 1, none⟩ = some (.string wd)) (first | exact ⟨c0, y1⟩ | go_keep) (first
        | (have _g := HM2.out; clear _g; go_at_call 26; refine (HBd.out _).mono ?_; rintro e w5 ⟨rfl, hb5⟩; have hb5 := (below_drewN (Below.refl wr.heap.size wr) 1).trans hb5; have c0 := keeps hb5 c0; have y1 := keeps hb5 y1; have HB5 := hid (bel_step HB.out hb5); clear hb5)
        | (have _g := HM1.out; clear _g; go_at_call 25; refine (HWq.out _).mono ?_; rintro e w4 ⟨rfl, rfl⟩; have HM2 := hid True.intro)
        | (go_at_call 57; refine (HI.out _).mono ?_; rintro e w3 ⟨rfl, rfl⟩; have HM1 := hid True.intro))
      all_goals
        go_wp2
        go_roundw
        case rel => exact ⟨k + 1, hlt, by go_num, by rw [HP3.out], HB5⟩
        case measure => simp [intOf]; omega
    · obtain rfl : wd.size = k := by omega
      rw [HEnd.out]
      go_wp2
      go_ret
      exact ⟨rfl, bel_step HB1.out HB.out⟩
end Go.Proofs.YtcdfghogmdhfcaaGreatDoor
