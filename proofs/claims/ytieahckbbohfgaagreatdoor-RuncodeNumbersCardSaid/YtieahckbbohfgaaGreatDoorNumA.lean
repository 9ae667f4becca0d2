/-
  The reference's binary, digits, Golomb, Gamma.
  The reference's Golomb.
  The reference's Ungolomb.
  The reference's Gamma and Ungamma.
  Golomb, Ungolomb, Gamma, Ungamma of both sides at all numbers, in one form.
  Conditions: The numbers are in range. The numbers are in range. The word is over the letters 0 and 1, of at most 1000 letters. The number is in range; the word is over the letters 0 and 1. The words have at most 900 letters.
-/
import Derived.Test.YtieahckbbohfgaaGreatDoorUngamA
import Derived.Test.YtieahckbbohfgaaGreatDoorZerExA
namespace Go.Proofs.YtieahckbbohfgaaGreatDoor
open Go.RowKit
set_option linter.unusedVariables false

theorem cat_zero (l : List UInt8) (w : World) (h : l.length ≤ 1000) : (Op.stringOp .add ⟨#[48]⟩ (strW l)).run Tryz.prog w = .ok (.string (strW (48 :: l))) w := cat_strW [48] l w (by simp; omega)
theorem cat_one (l : List UInt8) (w : World) (h : l.length ≤ 1000) : (Op.stringOp .add ⟨#[49]⟩ (strW l)).run Tryz.prog w = .ok (.string (strW (49 :: l))) w := cat_strW [49] l w (by simp; omega)
theorem lett_zero : (ByteArray.extract ⟨#[48, 49, 50, 51, 52, 53, 54, 55, 56, 57, 97, 98, 99, 100, 101, 102]⟩ 0 1) = ⟨#[48]⟩ := by decide +kernel
theorem lett_one : (ByteArray.extract ⟨#[48, 49, 50, 51, 52, 53, 54, 55, 56, 57, 97, 98, 99, 100, 101, 102]⟩ 1 2) = ⟨#[49]⟩ := by decide +kernel
set_option maxRecDepth 100000 in
set_option maxHeartbeats 1000000 in
theorem rbinary_any (n k : Nat) (w : World) (hk : k ≤ 100) (hn : n < 9223372036854775808) :
    Calls Tryz.prog 46 #[.int .i64 (n : Int), .int .i64 (k : Int)] w fun e w' => e = .returned (.string (strW (binW n k))) ∧ w = w' := by
  go_enter Tryz.func46, Tryz.ntmps46
  go_wp2_with fail
  go_loopw [6, 5, 0] (fun i s a wr => ∃ j : Nat, j ≤ k ∧ i = .int .i64 (j : Int) ∧ s = .string (strW (binW n j)) ∧ a = .int .i64 ((n / 2 ^ j : Nat) : Int) ∧ w = wr) (fun i _ _ _ => k - (intOf i).toNat)
  case atStart => exact ⟨0, Nat.zero_le _, rfl, rfl, by simp, rfl⟩
  case round =>
    obtain ⟨j, hj, rfl, rfl, rfl, rfl⟩ := hrel
    by_cases hjk : j < k
    · have HN := hid (show n / 2 ^ (j + 1) = n / 2 ^ j / 2 by rw [Nat.pow_succ, Nat.div_div_eq_div_mul])
      have HC := hid (binW_cons n j)
      have hl := binW_len n j
      have hqb : n / 2 ^ j ≤ 9223372036854775807 := Nat.le_trans (Nat.div_le_self _ _) (by omega)
      have hh : (((n / 2 ^ j : Nat) : Int)) / 2 = ((n / 2 ^ j / 2 : Nat) : Int) := by omega
      generalize n / 2 ^ j = q at *
      generalize q / 2 = q2 at *
      generalize binW n j = L at *
      rcases (show q % 2 = 0 ∨ q % 2 = 1 by omega) with hr | hr
      · have hrI : (q : Int) % 2 = 0 := by omega
        have hcat := fun X => cat_zero L X (by omega)
        have HD := hid (show binW n (j + 1) = 48 :: L by rw [HC.out, hr]; rfl)
        clear hr HC
        go_wp2_with (simp only [lett_zero])
        go_roundw
        case rel => exact ⟨j + 1, by omega, by go_num, by rw [HD.out], by rw [HN.out], trivial⟩
        case measure => simp [intOf]; omega
      · have hrI : (q : Int) % 2 = 1 := by omega
        have hcat := fun X => cat_one L X (by omega)
        have HD := hid (show binW n (j + 1) = 49 :: L by rw [HC.out, hr]; rfl)
        clear hr HC
        go_wp2_with (simp only [lett_one])
        go_roundw
        case rel => exact ⟨j + 1, by omega, by go_num, by rw [HD.out], by rw [HN.out], trivial⟩
        case measure => simp [intOf]; omega
    · obtain rfl : j = k := by omega
      go_wp2
      go_ret
      exact ⟨rfl, rfl⟩
theorem gB_below {m k : Nat} (h1 : 1 ≤ m) (h2 : m ≤ 65536) (hk : k < gB m) : 2 ^ k < m := by
  rcases Nat.lt_or_ge m 2 with h | h
  · obtain rfl : m = 1 := by omega
    rw [gB_one] at hk; omega
  · have h3 := (gB_two h (by omega)).1
    have h4 := Nat.pow_le_pow_right (n := 2) (by decide) (show k ≤ gB m - 1 by omega)
    omega
theorem gB_above {m : Nat} (h1 : 1 ≤ m) (h2 : m ≤ 65536) : m ≤ 2 ^ gB m := by
  rcases Nat.lt_or_ge m 2 with h | h
  · obtain rfl : m = 1 := by omega
    exact Nat.two_pow_pos _
  · exact (gB_two h (by omega)).2.1
theorem shl_int {k : Nat} (h : k ≤ 62) : IntKind.i64.wrap ((2 : Int) ^ k) = ((2 ^ k : Nat) : Int) ∧ wrap64 ((2 : Int) ^ k) = ((2 ^ k : Nat) : Int) := by
  have h1 := Nat.pow_le_pow_right (n := 2) (by decide) h
  have h2 : ((2 : Int) ^ k) = ((2 ^ k : Nat) : Int) := by push_cast; rfl
  rw [h2]
  generalize 2 ^ k = Q at *
  have h3 : IntKind.i64.wrap (Q : Int) = (Q : Int) := IntWalk.i64_in _ (by omega)
  exact ⟨h3, IntWalk.wrap64_in _ (by omega)⟩
set_option maxRecDepth 100000 in
set_option maxHeartbeats 1000000 in
theorem rdig_any (m : Nat) (w : World) (h1 : 1 ≤ m) (h2 : m ≤ 65536) :
    Calls Tryz.prog 45 #[.int .i64 (m : Int)] w fun e w' => e = .returned (.int .i64 (gB m : Int)) ∧ w = w' := by
  have HBl := hid (fun k => gB_below (k := k) h1 h2)
  have HAb := hid (gB_above h1 h2)
  have hg := gB_le m h2
  generalize gB m = B at *
  go_enter Tryz.func45, Tryz.ntmps45
  go_wp2_with fail
  go_loopw [3] (fun i wr => ∃ k : Nat, k ≤ B ∧ i = .int .i64 (k : Int) ∧ w = wr) (fun i _ => B - (intOf i).toNat)
  case atStart => exact ⟨0, Nat.zero_le _, rfl, rfl⟩
  case round =>
    obtain ⟨k, hk, rfl, rfl⟩ := hrel
    obtain ⟨hs1, hs2⟩ := shl_int (k := k) (by omega)
    by_cases hkB : k < B
    · have hq := HBl.out k hkB
      generalize 2 ^ k = Q at hs1 hs2 hq
      have hqI : (Q : Int) < (m : Int) := by omega
      go_wp2
      go_roundw
      case rel => exact ⟨k + 1, by omega, by go_num, trivial⟩
      case measure => simp [intOf]; omega
    · obtain rfl : k = B := by omega
      have hq := HAb.out
      generalize 2 ^ k = Q at hs1 hs2 hq
      have hqI : ¬ (Q : Int) < (m : Int) := by omega
      go_wp2
      go_ret
      exact ⟨rfl, rfl⟩
end Go.Proofs.YtieahckbbohfgaaGreatDoor

namespace Go.Proofs.YtieahckbbohfgaaGreatDoor
open Go.RowKit
set_option linter.unusedVariables false

theorem rep49_snoc (j : Nat) : Lib.byteCells (List.replicate (j + 1) 49) = Lib.byteCells (List.replicate j 49) ++ [.int .u8 49] := by
  rw [List.replicate_succ', bytes_snoc]; rfl
set_option maxRecDepth 100000 in
set_option maxHeartbeats 2000000 in
theorem rgolomb_any (m n : Nat) (w : World) (h1 : 1 ≤ m) (h2 : m ≤ 65536) (hn : n < 9223372036854775808) :
    Calls Tryz.prog 22 #[.int .i64 (m : Int), .int .i64 (n : Int)] w fun e w' => e = .returned (golV m n) ∧ Below w.heap.size w w' := by
  have HDi := hid (fun X => rdig_any m X h1 h2)
  have hrm : n % m < m := Nat.mod_lt _ (by omega)
  have hqn : n / m ≤ n := Nat.div_le_self _ _
  have hq1 : (n : Int).tdiv (m : Int) = ((n / m : Nat) : Int) := rfl
  have hr1 : (n : Int).tmod (m : Int) = ((n % m : Nat) : Int) := rfl
  have hm0 : ((m : Int) == 0) = false := by rw [beq_eq_false_iff_ne]; omega
  have hg := gB_le m h2
  obtain ⟨hh, hh2⟩ := gH_eq m h1 h2
  obtain ⟨hs1, hs2⟩ := shl_int (k := gB m) (by omega)
  obtain ⟨Q, hQ⟩ : ∃ Q, 2 ^ gB m = Q := ⟨_, rfl⟩
  have hp : Q ≤ 65536 := by rw [← hQ]; exact Nat.pow_le_pow_right (n := 2) (by decide) hg
  rw [hQ] at hh hs1 hs2
  have HS1 := hid hs1
  have HS2 := hid hs2
  clear hQ hs1 hs2
  have hlen := golT_small m (n % m) h2
  have HV : Hid (golV m n = if 65535 - (golT m (n % m)).length < n / m then .tuple #[.string ⟨#[]⟩, .int .i64 4] else .tuple #[.string (strW (golW m n)), .int .i64 0]) := hid rfl
  have HG : Hid (golW m n = List.replicate (n / m) 49 ++ 48 :: golT m (n % m)) := hid rfl
  have HTl : Hid (golT m (n % m) = if n % m < gH m then binW (n % m) (gB m - 1) else binW (n % m + gH m) (gB m)) := hid rfl
  have hgb : n % m < gH m → 1 < m ∧ 1 ≤ gB m := fun h => by
    rcases Nat.lt_or_ge m 2 with h3 | h3
    · obtain rfl : m = 1 := by omega
      rw [gH_one] at h; omega
    · exact ⟨by omega, (gB_two h3 (by omega)).2.2.1⟩
  have hsz : (strW (golT m (n % m))).size = (golT m (n % m)).length := strW_size _
  generalize n / m = q at *
  generalize n % m = r at *
  by_cases hbig : 65536 < q
  · have hbI : (65536 : Int) < (q : Int) := by omega
    have HE := hid (HV.out.trans (if_pos (by omega)))
    clear hgb HTl HG hsz HV hh HS1 HS2 hlen
    go_enter Tryz.func22, Tryz.ntmps22
    go_upto_region 3 with fail
    go_region
    all_goals
      go_wp2
      go_ret2
      exact ⟨by rw [HE.out]; rfl, below_drewN (Below.refl _ _) 1⟩
  have hbI : ¬ (65536 : Int) < (q : Int) := by omega
  by_cases hr : r < gH m
  · obtain ⟨hm1, hB1⟩ := hgb hr
    have hm1I : (1 : Int) < (m : Int) := by omega
    have hrI : (r : Int) < (gH m : Int) := by omega
    have HDg := hid (fun X => rbinary_any (r) (gB m - 1) X (by omega) (by omega))
    have hT1 := HTl.out.trans (if_pos hr)
    rw [← hT1] at HDg
    have hBI : (gB m : Int) - 1 = ((gB m - 1 : Nat) : Int) := by omega
    clear hgb HTl hT1 hr
    generalize hBm : gB m - 1 = B1 at *
    generalize hT0 : golT m r = T at *
    generalize hL : T.length = L at *
    generalize hS : strW T = S at *
    have HS := hid hS
    clear hS hT0
    generalize gB m = B at *
    generalize gH m = H at *
    obtain ⟨QL, hQL⟩ : ∃ QL, q + 1 + L = QL := ⟨_, rfl⟩
    have hA2 : (q : Int) + 1 + (S.size : Int) = (QL : Int) := by omega
    by_cases hlim : 65535 - L < q
    · have hlI : (65536 : Int) < (QL : Int) := by omega
      have HE := hid (HV.out.trans (if_pos hlim))
      clear hlim HV HG HS hQL
      go_enter Tryz.func22, Tryz.ntmps22
      go_upto_region 3 with fail
      go_region
      all_goals
        have hs2 := HS2.out
        go_wp2_with (first
          | (go_at_call 45; refine (HDi.out _).mono ?_; rintro e w1 ⟨rfl, rfl⟩)
          | (go_at_call 46; refine (HDg.out _).mono ?_; rintro e w2 ⟨rfl, rfl⟩))
        go_ret2
        exact ⟨by rw [HE.out]; rfl, below_drewN (Below.refl _ _) 1⟩
    · have hlI : ¬ (65536 : Int) < (QL : Int) := by omega
      have HE := hid (HV.out.trans (if_neg hlim))
      have HC1 := hid (fun X => cat_strW (List.replicate q 49) [48] X (by rw [List.length_replicate]; show q + 1 ≤ _; omega))
      have HC2 := hid (fun X => cat_strW (List.replicate q 49 ++ [48]) T X (by rw [List.length_append, List.length_replicate, hL]; show q + 1 + L ≤ _; omega))
      rw [List.append_assoc, List.singleton_append, ← HG.out, HS.out] at HC2
      clear hlim HV HG HS hQL
      go_enter Tryz.func22, Tryz.ntmps22
      go_upto_region 3 with fail
      go_region
      all_goals
        have hs2 := HS2.out
        go_upto_region 16 with (first
          | (go_at_call 45; refine (HDi.out _).mono ?_; rintro e w1 ⟨rfl, rfl⟩)
          | (go_at_call 46; refine (HDg.out _).mono ?_; rintro e w2 ⟨rfl, rfl⟩))
        clear hs2 hp
        obtain ⟨w0, hw0⟩ : ∃ w0, (w.alloc (.cells #[] 5)).drew = w0 := ⟨_, rfl⟩
        have HO0 := hid (show w0.ownsRow w.drew.heap.size 5 1 (.slice (some ⟨w.heap.size, 0, none⟩) 0 0) 0 [] by rw [← hw0]; exact own_empty w.drew 5 1)
        have HB0 := hid (show Below w.drew.heap.size w.drew w0 by rw [← hw0]; exact bel_alloc w.drew (.cells #[] 5))
        rw [hw0]
        clear hw0
        have HD1 := hid (below_drewN (Below.refl w.heap.size w) 1)
        go_wp2_with fail
        go_loopw [12, 11] (fun i u wr => ∃ j : Nat, j ≤ q ∧ i = .int .i64 (j : Int) ∧ Hid (wr.ownsRow w.drew.heap.size 5 1 u j (Lib.byteCells (List.replicate j 49))) ∧ Hid (Below w.drew.heap.size w.drew wr)) (fun i _ _ => q - (intOf i).toNat)
        case atStart => exact ⟨0, Nat.zero_le _, rfl, HO0, HB0⟩
        case round =>
          obtain ⟨j, hj, rfl, HO, HB⟩ := hrel
          rename World => wk
          obtain ⟨au, cu, rfl⟩ := own_slice HO.out
          by_cases hjq : j < q
          · have HR := hid (rep49_snoc j)
            have hbs := HB.out.size
            go_wp2_with (at_builtin; refine wpList_push _ rfl _ _ 67 rfl w.drew.heap.size 5 (.int .u8 0) 1 1 Tryz.underlying67 Tryz.infoU8 rfl (by decide) _ _ _ rfl HO.out #[.int .u8 49] rfl (oneCell_int _ _) rfl (by unfold maxLen; omega) (by omega) hbs ?_; intro g3 gc3 w3 hown3 hg3 hb3; have HO3 := hid hown3; have HB3 := hid (HB.out.trans hb3); clear hown3 hg3 hb3)
            go_roundw
            case rel => exact ⟨j + 1, by omega, by go_num, hid (by rw [HR.out]; exact HO3.out), HB3⟩
            case measure => simp [intOf]; omega
          · obtain rfl : j = q := by omega
            have hconv := conv_own (L := List.replicate j 49) (by rw [List.length_replicate]; exact HO.out)
            have hc1 := fun X => HC1.out X
            have hc2 := fun X => HC2.out X
            change ∀ X : World, (Op.stringOp .add (strW (List.replicate j 49)) ⟨#[48]⟩).run Tryz.prog X = .ok (.string (strW (List.replicate j 49 ++ [48]))) X at hc1
            clear HC1 HC2
            generalize strW (List.replicate j 49 ++ [48]) = A2 at *
            generalize strW (List.replicate j 49) = A1 at *
            generalize strW (golW m n) = A3 at *
            go_wp2
            go_ret2
            exact ⟨by rw [HE.out]; rfl, bel_step HD1.out HB.out⟩
  · have hrI : ¬ (r : Int) < (gH m : Int) := by omega
    have HDg := hid (fun X => rbinary_any (r + gH m) (gB m) X (by omega) (by omega))
    have hT1 := HTl.out.trans (if_neg hr)
    rw [← hT1] at HDg
    obtain ⟨rh, hrh⟩ : ∃ rh, r + gH m = rh := ⟨_, rfl⟩
    have hrw : (r : Int) + (gH m : Int) = (rh : Int) := by omega
    rw [hrh] at HDg
    have hrh2 : rh ≤ 131072 := by omega
    clear hrh
    by_cases hm1 : 1 < m
    · have hm1I : (1 : Int) < (m : Int) := by omega
      clear hgb HTl hT1 hr
      generalize hT0 : golT m r = T at *
      generalize hL : T.length = L at *
      generalize hS : strW T = S at *
      have HS := hid hS
      clear hS hT0
      generalize gB m = B at *
      generalize gH m = H at *
      obtain ⟨QL, hQL⟩ : ∃ QL, q + 1 + L = QL := ⟨_, rfl⟩
      have hA2 : (q : Int) + 1 + (S.size : Int) = (QL : Int) := by omega
      by_cases hlim : 65535 - L < q
      · have hlI : (65536 : Int) < (QL : Int) := by omega
        have HE := hid (HV.out.trans (if_pos hlim))
        clear hlim HV HG HS hQL
        go_enter Tryz.func22, Tryz.ntmps22
        go_upto_region 3 with fail
        go_region
        all_goals
          have hs2 := HS2.out
          go_wp2_with (first
            | (go_at_call 45; refine (HDi.out _).mono ?_; rintro e w1 ⟨rfl, rfl⟩)
            | (go_at_call 46; refine (HDg.out _).mono ?_; rintro e w2 ⟨rfl, rfl⟩))
          go_ret2
          exact ⟨by rw [HE.out]; rfl, below_drewN (Below.refl _ _) 1⟩
      · have hlI : ¬ (65536 : Int) < (QL : Int) := by omega
        have HE := hid (HV.out.trans (if_neg hlim))
        have HC1 := hid (fun X => cat_strW (List.replicate q 49) [48] X (by rw [List.length_replicate]; show q + 1 ≤ _; omega))
        have HC2 := hid (fun X => cat_strW (List.replicate q 49 ++ [48]) T X (by rw [List.length_append, List.length_replicate, hL]; show q + 1 + L ≤ _; omega))
        rw [List.append_assoc, List.singleton_append, ← HG.out, HS.out] at HC2
        clear hlim HV HG HS hQL
        go_enter Tryz.func22, Tryz.ntmps22
        go_upto_region 3 with fail
        go_region
        all_goals
          have hs2 := HS2.out
          go_upto_region 16 with (first
            | (go_at_call 45; refine (HDi.out _).mono ?_; rintro e w1 ⟨rfl, rfl⟩)
            | (go_at_call 46; refine (HDg.out _).mono ?_; rintro e w2 ⟨rfl, rfl⟩))
          clear hs2 hp
          obtain ⟨w0, hw0⟩ : ∃ w0, (w.alloc (.cells #[] 5)).drew = w0 := ⟨_, rfl⟩
          have HO0 := hid (show w0.ownsRow w.drew.heap.size 5 1 (.slice (some ⟨w.heap.size, 0, none⟩) 0 0) 0 [] by rw [← hw0]; exact own_empty w.drew 5 1)
          have HB0 := hid (show Below w.drew.heap.size w.drew w0 by rw [← hw0]; exact bel_alloc w.drew (.cells #[] 5))
          rw [hw0]
          clear hw0
          have HD1 := hid (below_drewN (Below.refl w.heap.size w) 1)
          go_wp2_with fail
          go_loopw [12, 11] (fun i u wr => ∃ j : Nat, j ≤ q ∧ i = .int .i64 (j : Int) ∧ Hid (wr.ownsRow w.drew.heap.size 5 1 u j (Lib.byteCells (List.replicate j 49))) ∧ Hid (Below w.drew.heap.size w.drew wr)) (fun i _ _ => q - (intOf i).toNat)
          case atStart => exact ⟨0, Nat.zero_le _, rfl, HO0, HB0⟩
          case round =>
            obtain ⟨j, hj, rfl, HO, HB⟩ := hrel
            rename World => wk
            obtain ⟨au, cu, rfl⟩ := own_slice HO.out
            by_cases hjq : j < q
            · have HR := hid (rep49_snoc j)
              have hbs := HB.out.size
              go_wp2_with (at_builtin; refine wpList_push _ rfl _ _ 67 rfl w.drew.heap.size 5 (.int .u8 0) 1 1 Tryz.underlying67 Tryz.infoU8 rfl (by decide) _ _ _ rfl HO.out #[.int .u8 49] rfl (oneCell_int _ _) rfl (by unfold maxLen; omega) (by omega) hbs ?_; intro g3 gc3 w3 hown3 hg3 hb3; have HO3 := hid hown3; have HB3 := hid (HB.out.trans hb3); clear hown3 hg3 hb3)
              go_roundw
              case rel => exact ⟨j + 1, by omega, by go_num, hid (by rw [HR.out]; exact HO3.out), HB3⟩
              case measure => simp [intOf]; omega
            · obtain rfl : j = q := by omega
              have hconv := conv_own (L := List.replicate j 49) (by rw [List.length_replicate]; exact HO.out)
              have hc1 := fun X => HC1.out X
              have hc2 := fun X => HC2.out X
              change ∀ X : World, (Op.stringOp .add (strW (List.replicate j 49)) ⟨#[48]⟩).run Tryz.prog X = .ok (.string (strW (List.replicate j 49 ++ [48]))) X at hc1
              clear HC1 HC2
              generalize strW (List.replicate j 49 ++ [48]) = A2 at *
              generalize strW (List.replicate j 49) = A1 at *
              generalize strW (golW m n) = A3 at *
              go_wp2
              go_ret2
              exact ⟨by rw [HE.out]; rfl, bel_step HD1.out HB.out⟩
    · have hm1I : ¬ (1 : Int) < (m : Int) := by omega
      have hTn : golT m r = [] := by
        obtain rfl : m = 1 := by omega
        obtain rfl : r = 0 := by omega
        rfl
      clear hgb HTl hT1 hr HDg hrw hrI hrh2
      generalize hT0 : golT m r = T at *
      generalize hL : T.length = L at *
      generalize hS : strW T = S at *
      have HS := hid hS
      obtain rfl : L = 0 := by rw [← hL, hTn]; rfl
      have hS0 : S = ⟨#[]⟩ := by rw [← hS, hTn]; rfl
      subst hS0
      clear hS hT0 hTn hsz
      generalize gB m = B at *
      generalize gH m = H at *
      obtain ⟨QL, hQL⟩ : ∃ QL, q + 1 + 0 = QL := ⟨_, rfl⟩
      have hA2 : (q : Int) + 1 + 0 = (QL : Int) := by omega
      have hA3 : (q : Int) + 1 = (QL : Int) := by omega
      by_cases hlim : 65535 - 0 < q
      · have hlI : (65536 : Int) < (QL : Int) := by omega
        have HE := hid (HV.out.trans (if_pos hlim))
        clear hlim HV HG HS hQL
        go_enter Tryz.func22, Tryz.ntmps22
        go_upto_region 3 with fail
        go_region
        all_goals
          go_upto_region 7 with (go_at_call 45; refine (HDi.out _).mono ?_; rintro e w1 ⟨rfl, rfl⟩)
          have HX := hid (And.intro hm1I (And.intro hA2 hA3))
          clear hm1I hA2 hA3 hg
          have hs2 := HS2.out
          go_upto_region 8 with fail
          clear hs2 hp
          obtain ⟨hm1I, hA2, hA3⟩ := HX.out
          go_wp2
          go_ret2
          exact ⟨by rw [HE.out]; rfl, below_drewN (Below.refl _ _) 1⟩
      · have hlI : ¬ (65536 : Int) < (QL : Int) := by omega
        have HE := hid (HV.out.trans (if_neg hlim))
        have HC1 := hid (fun X => cat_strW (List.replicate q 49) [48] X (by rw [List.length_replicate]; show q + 1 ≤ _; omega))
        have HC2 := hid (fun X => cat_strW (List.replicate q 49 ++ [48]) T X (by rw [List.length_append, List.length_replicate, hL]; show q + 1 + 0 ≤ _; omega))
        rw [List.append_assoc, List.singleton_append, ← HG.out, HS.out] at HC2
        clear hlim HV HG HS hQL
        go_enter Tryz.func22, Tryz.ntmps22
        go_upto_region 3 with fail
        go_region
        all_goals
          go_upto_region 7 with (go_at_call 45; refine (HDi.out _).mono ?_; rintro e w1 ⟨rfl, rfl⟩)
          have HX := hid (And.intro hm1I (And.intro hA2 hA3))
          clear hm1I hA2 hA3 hg
          have hs2 := HS2.out
          go_upto_region 8 with fail
          clear hs2 hp
          obtain ⟨hm1I, hA2, hA3⟩ := HX.out
          go_upto_region 16 with fail
          obtain ⟨w0, hw0⟩ : ∃ w0, (w.alloc (.cells #[] 5)).drew = w0 := ⟨_, rfl⟩
          have HO0 := hid (show w0.ownsRow w.drew.heap.size 5 1 (.slice (some ⟨w.heap.size, 0, none⟩) 0 0) 0 [] by rw [← hw0]; exact own_empty w.drew 5 1)
          have HB0 := hid (show Below w.drew.heap.size w.drew w0 by rw [← hw0]; exact bel_alloc w.drew (.cells #[] 5))
          rw [hw0]
          clear hw0
          have HD1 := hid (below_drewN (Below.refl w.heap.size w) 1)
          go_wp2_with fail
          go_loopw [12, 11] (fun i u wr => ∃ j : Nat, j ≤ q ∧ i = .int .i64 (j : Int) ∧ Hid (wr.ownsRow w.drew.heap.size 5 1 u j (Lib.byteCells (List.replicate j 49))) ∧ Hid (Below w.drew.heap.size w.drew wr)) (fun i _ _ => q - (intOf i).toNat)
          case atStart => exact ⟨0, Nat.zero_le _, rfl, HO0, HB0⟩
          case round =>
            obtain ⟨j, hj, rfl, HO, HB⟩ := hrel
            rename World => wk
            obtain ⟨au, cu, rfl⟩ := own_slice HO.out
            by_cases hjq : j < q
            · have HR := hid (rep49_snoc j)
              have hbs := HB.out.size
              go_wp2_with (at_builtin; refine wpList_push _ rfl _ _ 67 rfl w.drew.heap.size 5 (.int .u8 0) 1 1 Tryz.underlying67 Tryz.infoU8 rfl (by decide) _ _ _ rfl HO.out #[.int .u8 49] rfl (oneCell_int _ _) rfl (by unfold maxLen; omega) (by omega) hbs ?_; intro g3 gc3 w3 hown3 hg3 hb3; have HO3 := hid hown3; have HB3 := hid (HB.out.trans hb3); clear hown3 hg3 hb3)
              go_roundw
              case rel => exact ⟨j + 1, by omega, by go_num, hid (by rw [HR.out]; exact HO3.out), HB3⟩
              case measure => simp [intOf]; omega
            · obtain rfl : j = q := by omega
              have hconv := conv_own (L := List.replicate j 49) (by rw [List.length_replicate]; exact HO.out)
              have hc1 := fun X => HC1.out X
              have hc2 := fun X => HC2.out X
              change ∀ X : World, (Op.stringOp .add (strW (List.replicate j 49)) ⟨#[48]⟩).run Tryz.prog X = .ok (.string (strW (List.replicate j 49 ++ [48]))) X at hc1
              clear HC1 HC2
              generalize strW (List.replicate j 49 ++ [48]) = A2 at *
              generalize strW (List.replicate j 49) = A1 at *
              generalize strW (golW m n) = A3 at *
              go_wp2
              go_ret2
              exact ⟨by rw [HE.out]; rfl, bel_step HD1.out HB.out⟩
end Go.Proofs.YtieahckbbohfgaaGreatDoor

namespace Go.Proofs.YtieahckbbohfgaaGreatDoor
open Go.RowKit
set_option linter.unusedVariables false

theorem onesN_in : ∀ (l : List UInt8) (k : Nat), k < onesN l → l[k]? = some 49
  | [], k, h => by simp [onesN] at h
  | c :: l, k, h => by
    rw [onesN] at h
    by_cases hc : c = 49
    · rw [if_pos hc] at h
      cases k with
      | zero => rw [hc]; rfl
      | succ k => exact onesN_in l k (by omega)
    · rw [if_neg hc] at h; omega
theorem onesN_end : ∀ (l : List UInt8) (c : UInt8), l[onesN l]? = some c → c ≠ 49
  | [], c, h => by simp at h
  | x :: l, c, h => by
    rw [onesN] at h
    by_cases hc : x = 49
    · rw [if_pos hc] at h
      exact onesN_end l c (by simpa using h)
    · rw [if_neg hc] at h
      simp at h
      rw [← h]; exact hc
/-- A Golomb word that begins the word is what is read. -/
theorem ungol_pre {m r a : Nat} (h : 1 ≤ m) (h2 : m ≤ 1000000) (hr : r < m) {l : List UInt8} (hb : ∀ c ∈ l, isBit c = true) (hp : golW m (a * m + r) <+: l) : ungol m l = some (a * m + r, (golW m (a * m + r)).length) := by
  obtain ⟨t, rfl⟩ := hp
  exact ungol_gol h h2 t (fun c hc => hb c (by simp [hc]))
theorem ungol_miss {m : Nat} (h : 1 ≤ m) (h2 : m ≤ 1000000) {l : List UInt8} (hb : ∀ c ∈ l, isBit c = true) (hn : ∀ r, r < m → ¬ golW m (onesN l * m + r) <+: l) : ungol m l = none := by
  rcases onesN_split l hb with e | ⟨t, e⟩
  · have : onesN l = l.length := by
      have h3 := congrArg List.length e
      rw [List.length_replicate] at h3
      exact h3.symm
    rw [ungol, if_pos this]
  · have htb : ∀ c ∈ t, isBit c = true := fun c hc => hb c (by rw [e]; simp [hc])
    generalize hA : onesN l = A at *
    subst e
    rw [ungol_rep]
    cases hR : readT m t with
    | none => rfl
    | some p =>
      obtain ⟨r, k⟩ := p
      obtain ⟨g1, g2, g3⟩ := readT_pre h h2 htb hR
      exfalso
      refine hn r g1 ?_
      rw [golW_at h g1, ← g3]
      exact ⟨t.drop k, by rw [List.append_assoc, List.cons_append, List.take_append_drop]⟩
theorem extract_pre {s : ByteArray} {x : List UInt8} (h : x <+: s.data.toList) : s.extract 0 x.length = strW x := by
  obtain ⟨t, ht⟩ := h
  apply ByteArray.ext
  apply Array.toList_inj.1
  rw [ByteArray.data_extract, Array.toList_extract, List.extract_eq_take_drop, ← ht]
  simp [strW]
theorem extract_not {s : ByteArray} {x : List UInt8} (h : ¬ x <+: s.data.toList) : s.extract 0 x.length ≠ strW x := by
  intro e
  apply h
  have h2 := congrArg (fun b : ByteArray => b.data.toList) e
  simp only [ByteArray.data_extract, Array.toList_extract, List.extract_eq_take_drop] at h2
  rw [List.drop_zero, Nat.sub_zero] at h2
  rw [show (strW x).data.toList = x from rfl] at h2
  rw [← h2]
  exact List.take_prefix _ _
theorem golV_low {m a r : Nat} (h1 : 1 ≤ m) (h2 : m ≤ 65536) (hr : r < m) (ha : a ≤ 1000) : golV m (a * m + r) = .tuple #[.string (strW (golW m (a * m + r))), .int .i64 0] ∧ (golW m (a * m + r)).length ≤ 1017 := by
  have hT := golT_small m ((a * m + r) % m) h2
  have hd : (a * m + r) / m = a := by rw [Nat.add_comm, Nat.add_mul_div_right _ _ (by omega), Nat.div_eq_of_lt hr, Nat.zero_add]
  rw [golV, golW_len, hd]
  generalize (golT m ((a * m + r) % m)).length = L at *
  rw [if_neg (by omega)]
  exact ⟨rfl, by omega⟩
set_option maxRecDepth 100000 in
set_option maxHeartbeats 2000000 in
theorem rungol_any (m : Nat) (s : ByteArray) (w : World) (h1 : 1 ≤ m) (h2 : m ≤ 65536) (hE : wordErr 2 s = 0) (hs : s.size ≤ 900) :
    Calls Tryz.prog 23 #[.int .i64 (m : Int), .string s] w fun e w' => e = .returned (ungV m s.data.toList) ∧ Below w.heap.size w w' := by
  obtain ⟨hbits, _⟩ := bits_of hE
  have HCk := hid (fun X => rwcheck_any 2 s X)
  rw [hE] at HCk
  have HLn := hid (ba_len s)
  have HBi := hid hbits
  have hle := onesN_le s.data.toList
  rw [HLn.out] at hle
  have HIn := hid (onesN_in s.data.toList)
  have HEn := hid (onesN_end s.data.toList)
  have HPre := hid (fun r (hr : r < m) (hp : golW m (onesN s.data.toList * m + r) <+: s.data.toList) => ungol_pre h1 (by omega) hr hbits hp)
  have HMis := hid (fun hn => ungol_miss (m := m) h1 (by omega) hbits hn)
  have HVv : Hid (ungV m s.data.toList = match ungol m s.data.toList with
    | none => .tuple #[.int .i64 0, .int .i64 0, .int .i64 13]
    | some (n, k) => .tuple #[.int .i64 (n : Int), .int .i64 (k : Int), .int .i64 0]) := hid rfl
  have HG := hid (fun r (hr : r < m) => golV_low (a := onesN s.data.toList) h1 h2 hr (by omega))
  generalize ungV m s.data.toList = V at *
  have hm1 : ¬ (m : Int) < 1 := by omega
  have hm2 : ¬ (65536 : Int) < (m : Int) := by omega
  clear hE hbits
  go_enter Tryz.func23, Tryz.ntmps23
  go_wp2_with (go_at_call 37; refine (HCk.out _).mono ?_; rintro e w1 ⟨rfl, rfl⟩)
  go_loopw [8] (fun i wr => ∃ k : Nat, k ≤ onesN s.data.toList ∧ i = .int .i64 (k : Int) ∧ w = wr) (fun i _ => onesN s.data.toList - (intOf i).toNat)
  case atStart => exact ⟨0, Nat.zero_le _, rfl, rfl⟩
  case round =>
    obtain ⟨k, hk, rfl, rfl⟩ := hrel
    by_cases hko : k < onesN s.data.toList
    · have hks : k < s.size := by omega
      have hget := byte_at (HIn.out k hko) hks
      have hksI : (k : Int) < (s.size : Int) := by omega
      have e1 : (((49 : UInt8).toNat : Int) == 49) = true := by decide
      generalize onesN s.data.toList = A at *
      go_wp2
      go_roundw
      case rel => exact ⟨k + 1, by omega, by go_num, trivial⟩
      case measure => simp [intOf]; omega
    · obtain rfl : k = onesN s.data.toList := by omega
      have hA1000 : onesN s.data.toList ≤ 900 := by omega
      have hAm : onesN s.data.toList * m ≤ 900 * 65536 := Nat.mul_le_mul hA1000 h2
      have hAmI : (onesN s.data.toList : Int) * (m : Int) = ((onesN s.data.toList * m : Nat) : Int) := by push_cast; rfl
      have hstart : ∀ (P : Prop), (onesN s.data.toList = s.size → P) → (∀ (h : onesN s.data.toList < s.size), (((s[onesN s.data.toList]).toNat : Int) == 49) = false → P) → P := by
        intro P p1 p2
        rcases Nat.lt_or_ge (onesN s.data.toList) s.size with h | h
        · refine p2 h ?_
          obtain ⟨c, hc⟩ := some_of_lt (show onesN s.data.toList < s.data.toList.length by rw [HLn.out]; exact h)
          have hne := HEn.out c hc
          rw [byte_at hc h, beq_eq_false_iff_ne]
          intro e
          apply hne
          have : c.toNat = 49 := by omega
          exact UInt8.toNat_inj.1 (by rw [this]; rfl)
        · exact p1 (by omega)
      have HST := hid hstart
      clear hstart
      have HVm := hid (fun hn => HVv.out.trans (by rw [HMis.out hn]))
      have HVs := hid (fun r hr hp => HVv.out.trans (by rw [HPre.out r hr hp]))
      clear HMis HPre HVv HIn HEn
      generalize hA : onesN s.data.toList = A at *
      clear hA
      generalize hZ : A * m = Z at *
      clear hZ
      refine HST.out _ (fun hAs => ?_) (fun hAs hne => ?_)
      · have hcond : ¬ (A : Int) < (s.size : Int) := by omega
        clear hAs
        clear HST
        go_wp2_with fail
        go_loopw [9] (fun i wr => ∃ r : Nat, r ≤ m ∧ i = .int .i64 (r : Int) ∧ Hid (∀ r', r' < r → ¬ golW m (Z + r') <+: s.data.toList) ∧ Hid (Below w.heap.size w wr)) (fun i _ => m - (intOf i).toNat)
        case atStart => exact ⟨0, Nat.zero_le _, rfl, hid (fun r' h => by omega), hid (Below.refl _ _)⟩
        case round =>
          obtain ⟨r, hr, rfl, HN, HB⟩ := hrel
          rename World => wk
          by_cases hrm : r < m
          · obtain ⟨hgv, hgl⟩ := HG.out r hrm
            have HGo := hid (fun X => rgolomb_any m (Z + r) X h1 h2 (by omega))
            rw [hgv] at HGo
            have hsx := strW_size (golW m (Z + r))
            obtain ⟨zr, hzr⟩ : ∃ zr, Z + r = zr := ⟨_, rfl⟩
            have hzrI : (Z : Int) + (r : Int) = (zr : Int) := by omega
            by_cases hp : golW m (Z + r) <+: s.data.toList
            · have hex := extract_pre hp
              have hlx := hp.length_le
              rw [HLn.out] at hlx
              have HV := hid (HVs.out r hrm hp)
              rw [← hsx] at hex hlx HV hgl
              have hlxI : ((strW (golW m (Z + r))).size : Int) ≤ (s.size : Int) := by omega
              rw [hzr] at HGo hex hlx HV hgl hlxI
              clear hgv hp hsx HVs HVm HG
              generalize strW (golW m zr) = x at *
              go_wp2_with (go_at_call 22; refine (HGo.out _).mono ?_; rintro e w3 ⟨rfl, hb3⟩; have HB3 := hid (bel_step HB.out hb3); clear hb3)
              go_ret3
              exact ⟨by rw [HV.out]; rfl, HB3.out⟩
            · have hex := extract_not hp
              have HN1 := hid (show ∀ r', r' < r + 1 → ¬ golW m (Z + r') <+: s.data.toList by
                intro r' h
                rcases Nat.lt_or_ge r' r with h5 | h5
                · exact HN.out r' h5
                · obtain rfl : r' = r := by omega
                  exact hp)
              rw [← hsx] at hex hgl
              rw [hzr] at HGo hex hgl hsx
              clear hgv hp hsx
              generalize strW (golW m zr) = x at *
              by_cases hlx : x.size ≤ s.size
              · have hlxI : (x.size : Int) ≤ (s.size : Int) := by omega
                have hexb : ((s.extract 0 x.size).toList == x.toList) = false := by
                  rw [beq_eq_false_iff_ne, Lib.toList_data, Lib.toList_data]
                  exact fun h => hex (ByteArray.ext (Array.toList_inj.1 h))
                clear hex
                go_wp2_with (go_at_call 22; refine (HGo.out _).mono ?_; rintro e w3 ⟨rfl, hb3⟩; have HB3 := hid (bel_step HB.out hb3); clear hb3)
                go_roundw
                case rel => exact ⟨r + 1, by omega, by go_num, HN1, HB3⟩
                case measure => simp [intOf]; omega
              · have hlxI : ¬ (x.size : Int) ≤ (s.size : Int) := by omega
                clear hex
                go_wp2_with (go_at_call 22; refine (HGo.out _).mono ?_; rintro e w3 ⟨rfl, hb3⟩; have HB3 := hid (bel_step HB.out hb3); clear hb3)
                go_roundw
                case rel => exact ⟨r + 1, by omega, by go_num, HN1, HB3⟩
                case measure => simp [intOf]; omega
          · obtain rfl : r = m := by omega
            have HV := hid (HVm.out HN.out)
            go_wp2
            go_ret3
            exact ⟨by rw [HV.out]; rfl, HB.out⟩
      · have hcond : (A : Int) < (s.size : Int) := by omega
        clear HST
        go_wp2_with fail
        go_loopw [9] (fun i wr => ∃ r : Nat, r ≤ m ∧ i = .int .i64 (r : Int) ∧ Hid (∀ r', r' < r → ¬ golW m (Z + r') <+: s.data.toList) ∧ Hid (Below w.heap.size w wr)) (fun i _ => m - (intOf i).toNat)
        case atStart => exact ⟨0, Nat.zero_le _, rfl, hid (fun r' h => by omega), hid (Below.refl _ _)⟩
        case round =>
          obtain ⟨r, hr, rfl, HN, HB⟩ := hrel
          rename World => wk
          by_cases hrm : r < m
          · obtain ⟨hgv, hgl⟩ := HG.out r hrm
            have HGo := hid (fun X => rgolomb_any m (Z + r) X h1 h2 (by omega))
            rw [hgv] at HGo
            have hsx := strW_size (golW m (Z + r))
            obtain ⟨zr, hzr⟩ : ∃ zr, Z + r = zr := ⟨_, rfl⟩
            have hzrI : (Z : Int) + (r : Int) = (zr : Int) := by omega
            by_cases hp : golW m (Z + r) <+: s.data.toList
            · have hex := extract_pre hp
              have hlx := hp.length_le
              rw [HLn.out] at hlx
              have HV := hid (HVs.out r hrm hp)
              rw [← hsx] at hex hlx HV hgl
              have hlxI : ((strW (golW m (Z + r))).size : Int) ≤ (s.size : Int) := by omega
              rw [hzr] at HGo hex hlx HV hgl hlxI
              clear hgv hp hsx HVs HVm HG
              generalize strW (golW m zr) = x at *
              go_wp2_with (go_at_call 22; refine (HGo.out _).mono ?_; rintro e w3 ⟨rfl, hb3⟩; have HB3 := hid (bel_step HB.out hb3); clear hb3)
              go_ret3
              exact ⟨by rw [HV.out]; rfl, HB3.out⟩
            · have hex := extract_not hp
              have HN1 := hid (show ∀ r', r' < r + 1 → ¬ golW m (Z + r') <+: s.data.toList by
                intro r' h
                rcases Nat.lt_or_ge r' r with h5 | h5
                · exact HN.out r' h5
                · obtain rfl : r' = r := by omega
                  exact hp)
              rw [← hsx] at hex hgl
              rw [hzr] at HGo hex hgl hsx
              clear hgv hp hsx
              generalize strW (golW m zr) = x at *
              by_cases hlx : x.size ≤ s.size
              · have hlxI : (x.size : Int) ≤ (s.size : Int) := by omega
                have hexb : ((s.extract 0 x.size).toList == x.toList) = false := by
                  rw [beq_eq_false_iff_ne, Lib.toList_data, Lib.toList_data]
                  exact fun h => hex (ByteArray.ext (Array.toList_inj.1 h))
                clear hex
                go_wp2_with (go_at_call 22; refine (HGo.out _).mono ?_; rintro e w3 ⟨rfl, hb3⟩; have HB3 := hid (bel_step HB.out hb3); clear hb3)
                go_roundw
                case rel => exact ⟨r + 1, by omega, by go_num, HN1, HB3⟩
                case measure => simp [intOf]; omega
              · have hlxI : ¬ (x.size : Int) ≤ (s.size : Int) := by omega
                clear hex
                go_wp2_with (go_at_call 22; refine (HGo.out _).mono ?_; rintro e w3 ⟨rfl, hb3⟩; have HB3 := hid (bel_step HB.out hb3); clear hb3)
                go_roundw
                case rel => exact ⟨r + 1, by omega, by go_num, HN1, HB3⟩
                case measure => simp [intOf]; omega
          · obtain rfl : r = m := by omega
            have HV := hid (HVm.out HN.out)
            go_wp2
            go_ret3
            exact ⟨by rw [HV.out]; rfl, HB.out⟩
end Go.Proofs.YtieahckbbohfgaaGreatDoor

namespace Go.Proofs.YtieahckbbohfgaaGreatDoor
open Go.RowKit
set_option linter.unusedVariables false

theorem binW_zero (k : Nat) : binW 0 k = List.replicate k 48 := by
  have := binW_pad 0 0 k (by decide)
  rw [Nat.zero_add] at this
  rw [this]
  simp [binW]
set_option maxRecDepth 100000 in
set_option maxHeartbeats 1000000 in
theorem rgamma_any (n : Nat) (w : World) (h1 : 1 ≤ n) (hn : n < 9223372036854775808) :
    Calls Tryz.prog 24 #[.int .i64 (n : Int)] w fun e w' => e = .returned (.tuple #[.string (strW (gamW n)), .int .i64 0]) ∧ w = w' := by
  obtain ⟨d1, d2, d3⟩ := dgN_lt n hn
  have d4 := dgN_low n h1 hn
  have HG : Hid (gamW n = List.replicate (dgN n - 1) 48 ++ binW n (dgN n)) := hid rfl
  obtain ⟨B, hB⟩ : ∃ B, dgN n = B + 1 := ⟨dgN n - 1, by omega⟩
  rw [hB] at d1 d3 d4 HG
  rw [Nat.add_sub_cancel] at d4 HG
  have HLo := hid (fun k (hk : k < B) => (show 2 ≤ n / 2 ^ k by
    have h5 := Nat.pow_le_pow_right (n := 2) (by decide) (show k + 1 ≤ B by omega)
    rw [Nat.pow_succ] at h5
    exact (Nat.le_div_iff_mul_le (Nat.two_pow_pos k)).2 (by omega)))
  have HHi := hid (show n / 2 ^ B < 2 from (Nat.div_lt_iff_lt_mul (Nat.two_pow_pos B)).2 (by rw [Nat.pow_succ] at d1; omega))
  clear d1 d4 hB d2
  have hB62 : B ≤ 62 := by omega
  clear d3
  have HZ := hid (fun X => rbinary_any 0 B X (by omega) (by decide))
  rw [binW_zero] at HZ
  have HN := hid (fun X => rbinary_any n (B + 1) X (by omega) hn)
  have HC := hid (fun X => cat_strW (List.replicate B 48) (binW n (B + 1)) X (by rw [List.length_replicate, binW_len]; omega))
  rw [← HG.out] at HC
  have hn1 : ¬ (n : Int) < 1 := by omega
  obtain ⟨B1, hB1⟩ : ∃ B1, B + 1 = B1 := ⟨_, rfl⟩
  have hB1I : (B : Int) + 1 = (B1 : Int) := by omega
  rw [hB1] at HN HC
  clear hB1 HG
  go_enter Tryz.func24, Tryz.ntmps24
  go_wp2_with fail
  go_loopw [4] (fun i wr => ∃ k : Nat, k ≤ B ∧ i = .int .i64 (k : Int) ∧ w = wr) (fun i _ => B - (intOf i).toNat)
  case atStart => exact ⟨0, Nat.zero_le _, rfl, rfl⟩
  case round =>
    obtain ⟨k, hk, rfl, rfl⟩ := hrel
    have hsh : (n : Int) / 2 ^ k = ((n / 2 ^ k : Nat) : Int) := by push_cast; rfl
    by_cases hkB : k < B
    · have hq := HLo.out k hkB
      clear hB1I
      obtain ⟨q, hQ⟩ : ∃ q, n / 2 ^ k = q := ⟨_, rfl⟩
      rw [hQ] at hsh hq
      clear hQ
      have hqI : (1 : Int) < (q : Int) := by omega
      go_wp2
      go_roundw
      case rel => exact ⟨k + 1, by omega, by go_num, trivial⟩
      case measure => simp [intOf]; omega
    · obtain rfl : k = B := by omega
      have hq := HHi.out
      obtain ⟨q, hQ⟩ : ∃ q, n / 2 ^ k = q := ⟨_, rfl⟩
      rw [hQ] at hsh hq
      clear hQ
      have hqI : ¬ (1 : Int) < (q : Int) := by omega
      have hc := fun X => HC.out X
      generalize strW (List.replicate k 48) = S1 at *
      generalize strW (binW n B1) = S2 at *
      generalize hS3 : strW (gamW n) = S3 at *
      have HS3 := hid hS3
      clear hS3
      go_upto_region 6 with fail
      clear hsh
      go_wp2_with (first
        | (have _g := HMk.out; clear _g; go_at_call 46; refine (HN.out _).mono ?_; rintro e w3 ⟨rfl, rfl⟩)
        | (go_at_call 46; refine (HZ.out _).mono ?_; rintro e w2 ⟨rfl, rfl⟩; have HMk := hid trivial))
      go_ret2
      exact ⟨by rw [HS3.out]; rfl, rfl⟩
theorem zer_cons (c : UInt8) (l : List UInt8) : zer (c :: l) = if c = 48 then zer l + 1 else 0 := by
  have hle := trimL_le l
  unfold zer Lib.trimLeftB at *
  by_cases hc : c = 48
  · subst hc
    rw [if_pos rfl, List.dropWhile_cons_of_pos (by rfl), List.length_cons]
    omega
  · rw [if_neg hc, List.dropWhile_cons_of_neg (by simpa using hc), Nat.sub_self]
theorem zer_in : ∀ (l : List UInt8) (k : Nat), k < zer l → l[k]? = some 48
  | [], k, h => by simp [zer] at h
  | c :: l, k, h => by
    rw [zer_cons] at h
    by_cases hc : c = 48
    · rw [if_pos hc] at h
      cases k with
      | zero => rw [hc]; rfl
      | succ k => exact zer_in l k (by omega)
    · rw [if_neg hc] at h; omega
theorem zer_end : ∀ (l : List UInt8) (c : UInt8), l[zer l]? = some c → c ≠ 48
  | [], c, h => by simp at h
  | x :: l, c, h => by
    rw [zer_cons] at h
    by_cases hc : x = 48
    · rw [if_pos hc] at h
      exact zer_end l c (by simpa using h)
    · rw [if_neg hc] at h
      simp at h
      rw [← h]; exact hc
set_option maxRecDepth 100000 in
set_option maxHeartbeats 1000000 in
theorem rungam_any (s : ByteArray) (w : World) (hE : wordErr 2 s = 0) (hs : s.size ≤ 900) :
    Calls Tryz.prog 25 #[.string s] w fun e w' => e = .returned (ugV s.data.toList) ∧ w = w' := by
  obtain ⟨hbits, _⟩ := bits_of hE
  have HCk := hid (fun X => rwcheck_any 2 s X)
  rw [hE] at HCk
  have hln := ba_len s
  have HLn := hid hln
  have HBi := hid hbits
  have hzl := zer_le s.data.toList
  rw [hln] at hzl
  have HIn := hid (zer_in s.data.toList)
  have HEn := hid (zer_end s.data.toList)
  have HU : Hid (ugV s.data.toList = if 62 < zer s.data.toList then .tuple #[.int .i64 0, .int .i64 0, .int .i64 4] else
    if s.data.toList.length < 2 * zer s.data.toList + 1 then .tuple #[.int .i64 0, .int .i64 0, .int .i64 13] else
    .tuple #[.int .i64 (valW ((s.data.toList.drop (zer s.data.toList)).take (zer s.data.toList + 1)) : Int), .int .i64 ((2 * zer s.data.toList + 1 : Nat) : Int), .int .i64 0]) := hid rfl
  have hst : ∀ (P : Prop), (zer s.data.toList = s.size → P) → (∀ (h : zer s.data.toList < s.size), (((s[zer s.data.toList]).toNat : Int) == 48) = false → P) → P := by
    intro P p1 p2
    rcases Nat.lt_or_ge (zer s.data.toList) s.size with h | h
    · refine p2 h ?_
      obtain ⟨c, hc⟩ := some_of_lt (show zer s.data.toList < s.data.toList.length by rw [hln]; exact h)
      have hne := HEn.out c hc
      rw [byte_at hc h, beq_eq_false_iff_ne]
      intro e
      apply hne
      have : c.toNat = 48 := by omega
      exact UInt8.toNat_inj.1 (by rw [this]; rfl)
    · exact p1 (by omega)
  have HST := hid hst
  rw [hln] at HU
  generalize ugV s.data.toList = V at *
  generalize hz : zer s.data.toList = z at *
  clear hE hbits hst hz hln HEn
  go_enter Tryz.func25, Tryz.ntmps25
  go_wp2_with (go_at_call 37; refine (HCk.out _).mono ?_; rintro e w1 ⟨rfl, rfl⟩)
  go_loopw [6] (fun i wr => ∃ k : Nat, k ≤ z ∧ i = .int .i64 (k : Int) ∧ w = wr) (fun i _ => z - (intOf i).toNat)
  case atStart => exact ⟨0, Nat.zero_le _, rfl, rfl⟩
  case round =>
    obtain ⟨k, hk, rfl, rfl⟩ := hrel
    by_cases hko : k < z
    · have hks : k < s.size := by omega
      have hget := byte_at (HIn.out k hko) hks
      have hksI : (k : Int) < (s.size : Int) := by omega
      have e1 : (((48 : UInt8).toNat : Int) == 48) = true := by decide
      go_wp2
      go_roundw
      case rel => exact ⟨k + 1, by omega, by go_num, trivial⟩
      case measure => simp [intOf]; omega
    · obtain rfl : k = z := by omega
      have HREST : Hid (∀ (P : Prop), (62 < k → V = .tuple #[.int .i64 0, .int .i64 0, .int .i64 4] → P) → (k ≤ 62 → s.size < 2 * k + 1 → V = .tuple #[.int .i64 0, .int .i64 0, .int .i64 13] → P) → (k ≤ 62 → 2 * k + 1 ≤ s.size → V = .tuple #[.int .i64 (valW ((s.data.toList.drop k).take (k + 1)) : Int), .int .i64 ((2 * k + 1 : Nat) : Int), .int .i64 0] → P) → P) := by
        refine hid fun P p1 p2 p3 => ?_
        have h := HU.out
        by_cases h1 : 62 < k
        · rw [if_pos h1] at h; exact p1 h1 h
        · rw [if_neg h1] at h
          by_cases h2 : s.size < 2 * k + 1
          · rw [if_pos h2] at h; exact p2 (by omega) h2 h
          · rw [if_neg h2] at h; exact p3 (by omega) (by omega) h
      clear HIn HU
      refine HST.out _ (fun hAs => ?_) (fun hAs hne => ?_)
      · have hcond : ¬ (k : Int) < (s.size : Int) := by omega
        clear HST
        refine HREST.out _ (fun g1 g2 => ?_) (fun g1 g2 g3 => ?_) (fun g1 g2 g3 => ?_)
        · have HV := hid g2
          clear g2 hAs HREST
          go_wp2
          go_ret3
          exact ⟨by rw [HV.out]; rfl, rfl⟩
        · have HV := hid g3
          have hI : (s.size : Int) < 2 * (k : Int) + 1 := by omega
          clear g2 g3 hAs HREST
          go_wp2
          go_ret3
          exact ⟨by rw [HV.out]; rfl, rfl⟩
        · omega
      · have hcond : (k : Int) < (s.size : Int) := by omega
        clear HST
        refine HREST.out _ (fun g1 g2 => ?_) (fun g1 g2 g3 => ?_) (fun g1 g2 g3 => ?_)
        · have HV := hid g2
          clear g2 HREST
          go_wp2
          go_ret3
          exact ⟨by rw [HV.out]; rfl, rfl⟩
        · have HV := hid g3
          have hI : (s.size : Int) < 2 * (k : Int) + 1 := by omega
          clear g2 g3 HREST
          go_wp2
          go_ret3
          exact ⟨by rw [HV.out]; rfl, rfl⟩
        · have HV := hid g3
          have hI : ¬ (s.size : Int) < 2 * (k : Int) + 1 := by omega
          obtain ⟨E, hE2⟩ : ∃ E, 2 * k + 1 = E := ⟨_, rfl⟩
          have hEI : 2 * (k : Int) + 1 = (E : Int) := by omega
          clear g3 HREST
          go_wp2_with fail
          go_loopw [8, 7] (fun i a wr => ∃ j : Nat, j ≤ k + 1 ∧ i = .int .i64 ((k + j : Nat) : Int) ∧ a = .int .i64 (valW ((s.data.toList.drop k).take j) : Int) ∧ w = wr) (fun i _ _ => E - (intOf i).toNat)
          case atStart => exact ⟨0, Nat.zero_le _, rfl, rfl, rfl⟩
          case round =>
            obtain ⟨j, hj, rfl, rfl, rfl⟩ := hrel
            by_cases hjk : j < k + 1
            · obtain ⟨c, hc⟩ := some_of_lt (show k + j < s.data.toList.length by rw [HLn.out]; omega)
              obtain ⟨kj, hkj⟩ : ∃ kj, k + j = kj := ⟨_, rfl⟩
              have hdr : (s.data.toList.drop k)[j]? = some c := by rw [List.getElem?_drop]; exact hc
              rw [hkj] at hc ⊢
              have hkjs : kj < s.size := by omega
              have hget := byte_at hc hkjs
              obtain ⟨hc1, hc2, -⟩ := isBit_val (HBi.out c (List.mem_of_getElem? hc))
              have HX := hid (show valW ((s.data.toList.drop k).take (j + 1)) = 2 * valW ((s.data.toList.drop k).take j) + (c.toNat - 48) by rw [take_snoc hdr, valW_snoc])
              have hv : valW ((s.data.toList.drop k).take j) < 2 ^ j := by
                have h5 := valW_lt ((s.data.toList.drop k).take j) (fun c hc => HBi.out c (List.mem_of_mem_drop (List.mem_of_mem_take hc)))
                refine Nat.lt_of_lt_of_le h5 (Nat.pow_le_pow_right (by decide) ?_)
                rw [List.length_take]; omega
              have hp := Nat.pow_le_pow_right (n := 2) (by decide) (show j ≤ 62 by omega)
              have hv2 : valW ((s.data.toList.drop k).take j) < 4611686018427387904 := Nat.lt_of_lt_of_le hv hp
              clear hv hp hc hdr
              generalize valW ((s.data.toList.drop k).take j) = R at *
              have hcw : ((c.toNat : Int) - 48) % 256 = ((c.toNat - 48 : Nat) : Int) := by omega
              have hcw2 : IntKind.u8.wrap ((c.toNat : Int) - 48) = ((c.toNat - 48 : Nat) : Int) := by rw [IntKind.wrap_u8]; omega
              obtain ⟨D, hD⟩ : ∃ D, c.toNat - 48 = D := ⟨_, rfl⟩
              rw [hD] at hcw hcw2 hc1 HX
              clear hD
              have hkjE : (kj : Int) < (E : Int) := by omega
              have hE901 : E ≤ 1000 := by omega
              clear hE2
              have HKJ := hid hkj
              clear hkj
              have hkj2 : kj ≤ 1000 := by omega
              go_wp2
              go_roundw
              case rel => exact ⟨j + 1, by omega, by have := HKJ.out; go_num, by rw [HX.out]; simp, trivial⟩
              case measure => simp [intOf]; omega
            · obtain rfl : j = k + 1 := by omega
              have hkjE : ¬ ((k + (k + 1) : Nat) : Int) < (E : Int) := by omega
              generalize valW ((s.data.toList.drop k).take (k + 1)) = R at *
              generalize k + (k + 1) = kj at *
              have HE3 := hid hE2
              clear hE2
              go_wp2
              go_ret3
              exact ⟨by rw [HV.out, HE3.out]; rfl, rfl⟩
end Go.Proofs.YtieahckbbohfgaaGreatDoor

namespace Go.Proofs.YtieahckbbohfgaaGreatDoor
open Go.RowKit
set_option linter.unusedVariables false

def golR (m n : Int) : Value := if m < 1 ∨ 65536 < m ∨ n < 0 then .tuple #[.string ⟨#[]⟩, .int .i64 2] else golV m.toNat n.toNat
theorem golR_form (m n : Int) : ∃ (a : ByteArray) (e : Int), golR m n = .tuple #[.string a, .int .i64 e] := by
  unfold golR
  split
  · exact ⟨_, _, rfl⟩
  · unfold golV
    split
    · exact ⟨_, _, rfl⟩
    · exact ⟨_, _, rfl⟩
def ungR (m : Int) (s : ByteArray) : Value := if m < 1 ∨ 65536 < m then .tuple #[.int .i64 0, .int .i64 0, .int .i64 2] else if wordErr 2 s = 0 then ungV m.toNat s.data.toList else .tuple #[.int .i64 0, .int .i64 0, .int .i64 (wordErr 2 s)]
theorem ungR_form (m : Int) (s : ByteArray) : ∃ a b e : Int, ungR m s = .tuple #[.int .i64 a, .int .i64 b, .int .i64 e] := by
  unfold ungR
  split
  · exact ⟨_, _, _, rfl⟩
  · split
    · unfold ungV
      split
      · exact ⟨_, _, _, rfl⟩
      · exact ⟨_, _, _, rfl⟩
    · exact ⟨_, _, _, rfl⟩
def gamR (n : Int) : Value := if n < 1 then .tuple #[.string ⟨#[]⟩, .int .i64 2] else .tuple #[.string (strW (gamW n.toNat)), .int .i64 0]
theorem gamR_form (n : Int) : ∃ (a : ByteArray) (e : Int), gamR n = .tuple #[.string a, .int .i64 e] := by
  unfold gamR
  split <;> exact ⟨_, _, rfl⟩
def ugR (s : ByteArray) : Value := if wordErr 2 s = 0 then ugV s.data.toList else .tuple #[.int .i64 0, .int .i64 0, .int .i64 (wordErr 2 s)]
theorem ugR_form (s : ByteArray) : ∃ a b e : Int, ugR s = .tuple #[.int .i64 a, .int .i64 b, .int .i64 e] := by
  unfold ugR
  split
  · unfold ugV
    split
    · exact ⟨_, _, _, rfl⟩
    · split <;> exact ⟨_, _, _, rfl⟩
  · exact ⟨_, _, _, rfl⟩
theorem golombR_any (m n : Int) (w : World) (hn : n ≤ 9223372036854775807) (hT : TabAt 7 Lib.deBruijn64tab w) :
    Calls Tryz.prog 8 #[.int .i64 m, .int .i64 n] w fun e w' => e = .returned (golR m n) ∧ Below w.heap.size w w' := by
  by_cases h : m < 1 ∨ 65536 < m ∨ n < 0
  · rw [show golR m n = .tuple #[.string ⟨#[]⟩, .int .i64 2] from if_pos h]
    clear hT hn
    by_cases h1 : m < 1
    · clear h
      go_enter Tryz.func8, Tryz.ntmps8
      go_wp2
      go_ret2
      exact ⟨rfl, Below.refl _ _⟩
    · by_cases h2 : 65536 < m
      · clear h
        go_enter Tryz.func8, Tryz.ntmps8
        go_wp2
        go_ret2
        exact ⟨rfl, Below.refl _ _⟩
      · have h3 : n < 0 := by omega
        clear h
        go_enter Tryz.func8, Tryz.ntmps8
        go_wp2
        go_ret2
        exact ⟨rfl, Below.refl _ _⟩
  · rw [show golR m n = golV m.toNat n.toNat from if_neg h]
    have h9 := golomb_any m.toNat n.toNat w (by omega) (by omega) (by omega) hT
    rw [show ((m.toNat : Nat) : Int) = m by omega, show ((n.toNat : Nat) : Int) = n by omega] at h9
    exact h9
theorem rgolombR_any (m n : Int) (w : World) (hn : n ≤ 9223372036854775807) :
    Calls Tryz.prog 22 #[.int .i64 m, .int .i64 n] w fun e w' => e = .returned (golR m n) ∧ Below w.heap.size w w' := by
  by_cases h : m < 1 ∨ 65536 < m ∨ n < 0
  · rw [show golR m n = .tuple #[.string ⟨#[]⟩, .int .i64 2] from if_pos h]
    clear hn
    by_cases h1 : m < 1
    · clear h
      go_enter Tryz.func22, Tryz.ntmps22
      go_wp2
      go_ret2
      exact ⟨rfl, Below.refl _ _⟩
    · by_cases h2 : 65536 < m
      · clear h
        go_enter Tryz.func22, Tryz.ntmps22
        go_wp2
        go_ret2
        exact ⟨rfl, Below.refl _ _⟩
      · have h3 : n < 0 := by omega
        clear h
        go_enter Tryz.func22, Tryz.ntmps22
        go_wp2
        go_ret2
        exact ⟨rfl, Below.refl _ _⟩
  · rw [show golR m n = golV m.toNat n.toNat from if_neg h]
    have h9 := rgolomb_any m.toNat n.toNat w (by omega) (by omega) (by omega)
    rw [show ((m.toNat : Nat) : Int) = m by omega, show ((n.toNat : Nat) : Int) = n by omega] at h9
    exact h9
theorem ungolR_any (m : Int) (s : ByteArray) (w : World) (hs : s.size ≤ 900) :
    Calls Tryz.prog 11 #[.int .i64 m, .string s] w fun e w' => e = .returned (ungR m s) ∧ Below w.heap.size w w' := by
  by_cases h : m < 1 ∨ 65536 < m
  · rw [show ungR m s = .tuple #[.int .i64 0, .int .i64 0, .int .i64 2] from if_pos h]
    by_cases h1 : m < 1
    · clear h
      go_enter Tryz.func11, Tryz.ntmps11
      go_wp2
      go_ret3
      exact ⟨rfl, Below.refl _ _⟩
    · have h2 : 65536 < m := by omega
      clear h
      go_enter Tryz.func11, Tryz.ntmps11
      go_wp2
      go_ret3
      exact ⟨rfl, Below.refl _ _⟩
  · by_cases hE : wordErr 2 s = 0
    · rw [show ungR m s = ungV m.toNat s.data.toList by rw [ungR, if_neg h, if_pos hE]]
      have h9 := ungol_any m.toNat s w (by omega) (by omega) hE
      rw [show ((m.toNat : Nat) : Int) = m by omega] at h9
      exact h9
    · rw [show ungR m s = .tuple #[.int .i64 0, .int .i64 0, .int .i64 (wordErr 2 s)] by rw [ungR, if_neg h, if_neg hE]]
      have hEn : (wordErr 2 s != 0) = true := by simp [hE]
      have HCk := hid (fun X => wcheck_any 2 s X)
      have h1 : ¬ m < 1 := by omega
      have h2 : ¬ 65536 < m := by omega
      clear h
      generalize wordErr 2 s = E at *
      go_enter Tryz.func11, Tryz.ntmps11
      go_wp2_with (go_at_call 10; refine (HCk.out _).mono ?_; rintro e w1 ⟨rfl, hD⟩; have HB1 := hid (hD.below w.heap.size); clear hD)
      go_ret3
      exact ⟨rfl, HB1.out⟩
theorem rungolR_any (m : Int) (s : ByteArray) (w : World) (hs : s.size ≤ 900) :
    Calls Tryz.prog 23 #[.int .i64 m, .string s] w fun e w' => e = .returned (ungR m s) ∧ Below w.heap.size w w' := by
  by_cases h : m < 1 ∨ 65536 < m
  · rw [show ungR m s = .tuple #[.int .i64 0, .int .i64 0, .int .i64 2] from if_pos h]
    by_cases h1 : m < 1
    · clear h
      go_enter Tryz.func23, Tryz.ntmps23
      go_wp2
      go_ret3
      exact ⟨rfl, Below.refl _ _⟩
    · have h2 : 65536 < m := by omega
      clear h
      go_enter Tryz.func23, Tryz.ntmps23
      go_wp2
      go_ret3
      exact ⟨rfl, Below.refl _ _⟩
  · by_cases hE : wordErr 2 s = 0
    · rw [show ungR m s = ungV m.toNat s.data.toList by rw [ungR, if_neg h, if_pos hE]]
      have h9 := rungol_any m.toNat s w (by omega) (by omega) hE hs
      rw [show ((m.toNat : Nat) : Int) = m by omega] at h9
      exact h9
    · rw [show ungR m s = .tuple #[.int .i64 0, .int .i64 0, .int .i64 (wordErr 2 s)] by rw [ungR, if_neg h, if_neg hE]]
      have hEn : (wordErr 2 s != 0) = true := by simp [hE]
      have HCk := hid (fun X => rwcheck_any 2 s X)
      have h1 : ¬ m < 1 := by omega
      have h2 : ¬ 65536 < m := by omega
      clear h
      generalize wordErr 2 s = E at *
      go_enter Tryz.func23, Tryz.ntmps23
      go_wp2_with (go_at_call 37; refine (HCk.out _).mono ?_; rintro e w1 ⟨rfl, rfl⟩; have HB1 := hid (Below.refl w.heap.size w))
      go_ret3
      exact ⟨rfl, HB1.out⟩
theorem gammaR_any (n : Int) (w : World) (hn : n ≤ 9223372036854775807) (hT : TabAt 7 Lib.deBruijn64tab w) :
    Calls Tryz.prog 20 #[.int .i64 n] w fun e w' => e = .returned (gamR n) ∧ Below w.heap.size w w' := by
  by_cases h : n < 1
  · rw [show gamR n = .tuple #[.string ⟨#[]⟩, .int .i64 2] from if_pos h]
    clear hT hn
    go_enter Tryz.func20, Tryz.ntmps20
    go_wp2
    go_ret2
    exact ⟨rfl, Below.refl _ _⟩
  · rw [show gamR n = .tuple #[.string (strW (gamW n.toNat)), .int .i64 0] from if_neg h]
    have h9 := gamma_any n.toNat w (by omega) (by omega) hT
    rw [show ((n.toNat : Nat) : Int) = n by omega] at h9
    exact h9
theorem rgammaR_any (n : Int) (w : World) (hn : n ≤ 9223372036854775807) :
    Calls Tryz.prog 24 #[.int .i64 n] w fun e w' => e = .returned (gamR n) ∧ Below w.heap.size w w' := by
  by_cases h : n < 1
  · rw [show gamR n = .tuple #[.string ⟨#[]⟩, .int .i64 2] from if_pos h]
    clear hn
    go_enter Tryz.func24, Tryz.ntmps24
    go_wp2
    go_ret2
    exact ⟨rfl, Below.refl _ _⟩
  · rw [show gamR n = .tuple #[.string (strW (gamW n.toNat)), .int .i64 0] from if_neg h]
    have h9 := (rgamma_any n.toNat w (by omega) (by omega)).mono fun e w' h => (⟨h.1, h.2 ▸ Below.refl _ _⟩ : e = .returned (.tuple #[.string (strW (gamW n.toNat)), .int .i64 0]) ∧ Below w.heap.size w w')
    rw [show ((n.toNat : Nat) : Int) = n by omega] at h9
    exact h9
theorem ungamR_any (s : ByteArray) (w : World) (hs : s.size ≤ 900) :
    Calls Tryz.prog 21 #[.string s] w fun e w' => e = .returned (ugR s) ∧ Below w.heap.size w w' := by
  by_cases hE : wordErr 2 s = 0
  · rw [show ugR s = ugV s.data.toList from if_pos hE]
    exact ungam_any s w hE
  · rw [show ugR s = .tuple #[.int .i64 0, .int .i64 0, .int .i64 (wordErr 2 s)] from if_neg hE]
    have hEn : (wordErr 2 s != 0) = true := by simp [hE]
    have HCk := hid (fun X => wcheck_any 2 s X)
    generalize wordErr 2 s = E at *
    go_enter Tryz.func21, Tryz.ntmps21
    go_wp2_with (go_at_call 10; refine (HCk.out _).mono ?_; rintro e w1 ⟨rfl, hD⟩; have HB1 := hid (hD.below w.heap.size); clear hD)
    go_ret3
    exact ⟨rfl, HB1.out⟩
theorem rungamR_any (s : ByteArray) (w : World) (hs : s.size ≤ 900) :
    Calls Tryz.prog 25 #[.string s] w fun e w' => e = .returned (ugR s) ∧ Below w.heap.size w w' := by
  by_cases hE : wordErr 2 s = 0
  · rw [show ugR s = ugV s.data.toList from if_pos hE]
    exact (rungam_any s w hE hs).mono fun e w' h => ⟨h.1, h.2 ▸ Below.refl _ _⟩
  · rw [show ugR s = .tuple #[.int .i64 0, .int .i64 0, .int .i64 (wordErr 2 s)] from if_neg hE]
    have hEn : (wordErr 2 s != 0) = true := by simp [hE]
    have HCk := hid (fun X => rwcheck_any 2 s X)
    generalize wordErr 2 s = E at *
    go_enter Tryz.func25, Tryz.ntmps25
    go_wp2_with (go_at_call 37; refine (HCk.out _).mono ?_; rintro e w1 ⟨rfl, rfl⟩; have HB1 := hid (Below.refl w.heap.size w))
    go_ret3
    exact ⟨rfl, HB1.out⟩
end Go.Proofs.YtieahckbbohfgaaGreatDoor
