/-
  runcode.truncated, digits, Golomb.
  The library's table for TrailingZeros lies in its variable.
-/
import Derived.Test.YtieahckbbohfgaaGreatDoorFmtBin
import Derived.Test.YtieahckbbohfgaaGreatDoorShelfW
namespace Go.Proofs.YtieahckbbohfgaaGreatDoor
open Go.RowKit
set_option linter.unusedVariables false

theorem cat_small (a b : ByteArray) (w : World) (h : a.size + b.size ≤ 1000000) : (Op.stringOp .add a b).run Tryz.prog w = .ok (.string (a ++ b)) w := by
  unfold Op.stringOp
  have h : ¬ ((a.size + b.size : Nat) : Int) > IntKind.i64.max := by
    show ¬ ((a.size + b.size : Nat) : Int) > 9223372036854775807
    omega
  rw [if_neg h]
  rfl
theorem binW_pad (n k j : Nat) (h : n < 2 ^ k) : binW n (k + j) = List.replicate j 48 ++ binW n k := by
  induction j with
  | zero => rfl
  | succ j ih =>
    rw [← Nat.add_assoc, binW_cons, ih, Nat.div_eq_of_lt (Nat.lt_of_lt_of_le h (Nat.pow_le_pow_right (by decide) (by omega))), List.replicate_succ]
    rfl
theorem dgN_lt (n : Nat) (hn : n < 9223372036854775808) : n < 2 ^ dgN n ∧ 1 ≤ dgN n ∧ dgN n ≤ 63 := by
  unfold dgN
  by_cases h : n = 0
  · subst h; decide
  · rw [if_neg h]
    obtain ⟨h1, h2, h3⟩ := bitLenAux_bounds 64 n h (by omega)
    exact ⟨h2, h3, Lib.bitLenAux_le 64 n 63 (by omega)⟩
theorem dgN_le (n b : Nat) (h : n < 2 ^ b) (h1 : 1 ≤ b) : dgN n ≤ b := by
  unfold dgN
  split
  · exact h1
  · exact Lib.bitLenAux_le 64 n b h
theorem rep_one (c : UInt8) (k : Nat) : Lib.repeatL [c] k = List.replicate k c := by
  induction k with
  | zero => rfl
  | succ k ih => rw [List.replicate_succ, ← ih]; rfl
/-- A list of bytes as a string. -/
def strW (l : List UInt8) : ByteArray := ⟨l.toArray⟩
theorem strW_app (a b : List UInt8) : strW a ++ strW b = strW (a ++ b) := by
  apply ByteArray.ext
  simp [strW]
theorem strW_size (l : List UInt8) : (strW l).size = l.length := by simp [strW, ByteArray.size]
theorem cat_strW (a b : List UInt8) (w : World) (h : a.length + b.length ≤ 1000000) : (Op.stringOp .add (strW a) (strW b)).run Tryz.prog w = .ok (.string (strW (a ++ b))) w := by
  rw [cat_small _ _ _ (by rw [strW_size, strW_size]; exact h), strW_app]
theorem rep_any (c : UInt8) (k : Nat) (w : World) (hk : k ≤ 1000000) :
    Calls Tryz.prog 28 #[.string ⟨#[c]⟩, .int .i64 (k : Int)] w fun e w' => e = .returned (.string (strW (List.replicate k c))) ∧ Below w.heap.size w w' := by
  have h := Tryz.strings_Repeat ⟨#[c]⟩ k w (by omega) (by show 1 * k ≤ _; omega)
  have e : (⟨(Lib.repeatL (⟨#[c]⟩ : ByteArray).data.toList k).toArray⟩ : ByteArray) = strW (List.replicate k c) := by
    show (⟨(Lib.repeatL [c] k).toArray⟩ : ByteArray) = _
    rw [rep_one]; rfl
  rw [e] at h
  exact h
set_option maxRecDepth 100000 in
set_option maxHeartbeats 4000000 in
theorem gdigits_any (n b : Nat) (w : World) (hb : b ≤ 60) (hn : n < 2 ^ b) (hT : TabAt 7 Lib.deBruijn64tab w) :
    Calls Tryz.prog 27 #[.int .i64 (n : Int), .int .i64 (b : Int)] w fun e w' => e = .returned (.string (strW (binW n b))) ∧ Below w.heap.size w w' := by
  by_cases h0 : b = 0
  · subst h0
    clear hT
    go_enter Tryz.func27, Tryz.ntmps27
    go_wp2
    go_ret
    exact ⟨rfl, Below.refl _ _⟩
  · have h63 : n < 9223372036854775808 := Nat.lt_trans hn (Nat.lt_of_le_of_lt (Nat.pow_le_pow_right (by decide) hb) (by decide))
    have HF := hid (fmt_any n w h63 hT)
    obtain ⟨d1, d2, d3⟩ := dgN_lt n h63
    have d4 := dgN_le n b hn (by omega)
    have HR := hid (fun X => rep_any 48 (b - dgN n) X (by omega))
    have HC := hid (fun X => cat_strW (List.replicate (b - dgN n) 48) (binW n (dgN n)) X (by rw [List.length_replicate, binW_len]; omega))
    rw [← binW_pad n (dgN n) (b - dgN n) d1, show dgN n + (b - dgN n) = b by omega] at HC
    have hl : (strW (binW n (dgN n))).size = dgN n := by rw [strW_size, binW_len]
    have hs : ((b : Int) - (dgN n : Int)) = ((b - dgN n : Nat) : Int) := by omega
    have hb0 : ((b : Int) == 0) = false := by rw [beq_eq_false_iff_ne]; omega
    change Hid (Calls Tryz.prog 42 #[.int .i64 (n : Int), .int .i64 2] w fun e w' => e = .returned (.string (strW (binW n (dgN n)))) ∧ Below w.heap.size w w') at HF
    clear hT h63 d1 hn h0
    generalize binW n b = R at *
    generalize hD : dgN n = D at *
    generalize hM : b - D = M at *
    generalize strW (binW n D) = S at *
    generalize strW (List.replicate M 48) = Q at *
    have hc := fun X => HC.out X
    go_enter Tryz.func27, Tryz.ntmps27
    go_wp2_with (first
      | (go_at_call 42; refine HF.out.mono ?_; rintro e w1 ⟨rfl, hb1⟩; have HB1 := hid hb1; clear hb1)
      | (go_at_call 28; refine (HR.out _).mono ?_; rintro e w2 ⟨rfl, hb2⟩; have HB2 := hid (bel_step HB1.out hb2); clear hb2))
    go_ret
    exact ⟨rfl, HB2.out⟩
theorem gB_le (m : Nat) (h : m ≤ 65536) : gB m ≤ 16 := Lib.bitLenAux_le 64 (m - 1) 16 (by omega)
theorem gH_eq (m : Nat) (h1 : 1 ≤ m) (h2 : m ≤ 65536) : ((2 ^ gB m : Nat) : Int) - (m : Int) = (gH m : Int) ∧ gH m ≤ 65536 := by
  have h := Nat.pow_le_pow_right (n := 2) (by decide) (gB_le m h2)
  rcases Nat.lt_or_ge m 2 with h3 | h3
  · obtain rfl : m = 1 := by omega
    exact ⟨rfl, by decide⟩
  · obtain ⟨h4, _⟩ := gH_two h3 (by omega)
    exact ⟨by omega, by omega⟩
set_option maxRecDepth 100000 in
set_option maxHeartbeats 4000000 in
theorem trunc_any (m : Nat) (w : World) (h1 : 1 ≤ m) (h2 : m ≤ 65536) :
    Calls Tryz.prog 26 #[.int .i64 (m : Int)] w fun e w' => e = .returned (.tuple #[.int .i64 (gB m : Int), .int .i64 (gH m : Int)]) ∧ Below w.heap.size w w' := by
  have HL := hid (fun X => Tryz.bits_Len ((m : Int) - 1) X (by omega) (by omega))
  have e1 : (((m : Int) - 1).toNat) = m - 1 := by omega
  rw [e1, show Lib.bitLen (m - 1) = gB m from rfl] at HL
  have hw : IntKind.i64.wrap ((m : Int) - 1) = (m : Int) - 1 := IntWalk.i64_in _ (by omega)
  have hu : IntKind.u64.wrap ((m : Int) - 1) = (m : Int) - 1 := by rw [IntKind.wrap_u64]; omega
  have hg := gB_le m h2
  obtain ⟨hh, hh2⟩ := gH_eq m h1 h2
  have hp := Nat.pow_le_pow_right (n := 2) (by decide) hg
  have hshl : IntKind.i64.wrap (2 ^ gB m) = ((2 ^ gB m : Nat) : Int) := by
    rw [show ((2 : Int) ^ gB m) = ((2 ^ gB m : Nat) : Int) by push_cast; rfl]
    exact IntWalk.i64_in _ (by omega)
  have hb0 : (0 : Int) ≤ (gB m : Int) := by omega
  generalize hQ : 2 ^ gB m = Q at hh hp hshl
  clear hQ
  generalize gB m = B at *
  generalize gH m = H at *
  go_enter Tryz.func26, Tryz.ntmps26
  go_upto_region 2 with (go_at_call 47; refine (HL.out _).mono ?_; rintro e w1 ⟨rfl, rfl⟩)
  go_region
  all_goals
    go_wp2
    go_ret2
    exact ⟨rfl, below_drewN (Below.refl _ _) 1⟩
/-- What Golomb answers. -/
def golV (m n : Nat) : Value := if 65535 - (golT m (n % m)).length < n / m then .tuple #[.string ⟨#[]⟩, .int .i64 4] else .tuple #[.string (strW (golW m n)), .int .i64 0]
theorem golT_small (m r : Nat) (h : m ≤ 65536) : (golT m r).length ≤ 16 := Nat.le_trans (golT_le m r) (gB_le m h)
set_option maxRecDepth 100000 in
set_option maxHeartbeats 4000000 in
theorem golomb_any (m n : Nat) (w : World) (h1 : 1 ≤ m) (h2 : m ≤ 65536) (hn : n < 9223372036854775808) (hT : TabAt 7 Lib.deBruijn64tab w) :
    Calls Tryz.prog 8 #[.int .i64 (m : Int), .int .i64 (n : Int)] w fun e w' => e = .returned (golV m n) ∧ Below w.heap.size w w' := by
  have HTr := hid (fun X => trunc_any m X h1 h2)
  have hrm : n % m < m := Nat.mod_lt _ (by omega)
  have hqn : n / m ≤ n := Nat.div_le_self _ _
  have hq1 : (n : Int).tdiv (m : Int) = ((n / m : Nat) : Int) := rfl
  have hr1 : (n : Int).tmod (m : Int) = ((n % m : Nat) : Int) := rfl
  have hm0 : ((m : Int) == 0) = false := by rw [beq_eq_false_iff_ne]; omega
  have hg := gB_le m h2
  obtain ⟨hh, hh2⟩ := gH_eq m h1 h2
  have hlen := golT_small m (n % m) h2
  have HV : Hid (golV m n = if 65535 - (golT m (n % m)).length < n / m then .tuple #[.string ⟨#[]⟩, .int .i64 4] else .tuple #[.string (strW (golW m n)), .int .i64 0]) := hid rfl
  have HG : Hid (golW m n = List.replicate (n / m) 49 ++ 48 :: golT m (n % m)) := hid rfl
  have HTl : Hid (golT m (n % m) = if n % m < gH m then binW (n % m) (gB m - 1) else binW (n % m + gH m) (gB m)) := hid rfl
  have hgb : gH m ≤ n % m → n % m + gH m < 2 ^ gB m := fun _ => by omega
  have hga : n % m < gH m → n % m < 2 ^ (gB m - 1) ∧ 1 ≤ gB m := fun h => by
    rcases Nat.lt_or_ge m 2 with h3 | h3
    · obtain rfl : m = 1 := by omega
      rw [gH_one] at h; omega
    · exact ⟨by have := (gH_two h3 (by omega)).2.2.1; omega, (gB_two h3 (by omega)).2.2.1⟩
  have HT := hid (fun X (h : Below w.heap.size w X) => tab_below hT h)
  by_cases hr : n % m < gH m
  · obtain ⟨p1, p2⟩ := hga hr
    have HDg := hid (fun X h => gdigits_any (n % m) (gB m - 1) X (by omega) p1 (HT.out X h))
    have hT1 := HTl.out.trans (if_pos hr)
    rw [← hT1] at HDg
    have hrI : ((n % m : Nat) : Int) < (gH m : Int) := by omega
    have hB1 : (gB m : Int) - 1 = ((gB m - 1 : Nat) : Int) := by omega
    clear hT HT HTl hga hgb hT1 p1 p2 hr hh hh2
    generalize hT0 : golT m (n % m) = T at *
    have hsz : (strW T).size = T.length := strW_size T
    clear hT0
    generalize hL : T.length = L at *
    generalize hS : strW T = S at *
    have HS := hid hS
    clear hS
    generalize n / m = q at *
    generalize n % m = r at *
    generalize hBm : gB m - 1 = B1 at *
    generalize gB m = B at *
    generalize gH m = H at *
    by_cases hbig : 65535 - L < q
    · have hb1 : (65535 : Int) - (L : Int) < (q : Int) := by omega
      have HE := hid (HV.out.trans (if_pos hbig))
      clear hbig
      go_enter Tryz.func8, Tryz.ntmps8
      go_wp2_with (first
        | (go_at_call 26; refine (HTr.out _).mono ?_; rintro e w1 ⟨rfl, hb1⟩; have HB1 := hid hb1; clear hb1)
        | (go_at_call 27; refine (HDg.out _ HB1.out).mono ?_; rintro e w2 ⟨rfl, hb2⟩; have HB2 := hid (bel_step HB1.out hb2); clear hb2))
      go_ret2
      exact ⟨by rw [HE.out]; rfl, HB2.out⟩
    · have hb1 : ¬ (65535 : Int) - (L : Int) < (q : Int) := by omega
      have HE := hid (HV.out.trans (if_neg hbig))
      have HR := hid (fun X => rep_any 49 q X (by omega))
      have HC1 := hid (fun X => cat_strW (List.replicate q 49) [48] X (by rw [List.length_replicate]; show q + 1 ≤ _; omega))
      have HC2 := hid (fun X => cat_strW (List.replicate q 49 ++ [48]) T X (by rw [List.length_append, List.length_replicate, hL]; show q + 1 + L ≤ _; omega))
      rw [List.append_assoc, List.singleton_append, ← HG.out, HS.out] at HC2
      have hc1 := fun X => HC1.out X
      have hc2 := fun X => HC2.out X
      change ∀ X : World, (Op.stringOp .add (strW (List.replicate q 49)) ⟨#[48]⟩).run Tryz.prog X = .ok (.string (strW (List.replicate q 49 ++ [48]))) X at hc1
      clear hbig HG hL HC1 HC2
      generalize strW (List.replicate q 49 ++ [48]) = A2 at *
      generalize strW (List.replicate q 49) = A1 at *
      generalize strW (golW m n) = A3 at *
      go_enter Tryz.func8, Tryz.ntmps8
      go_wp2_with (first
        | (go_at_call 26; refine (HTr.out _).mono ?_; rintro e w1 ⟨rfl, hb1⟩; have HB1 := hid hb1; clear hb1)
        | (go_at_call 27; refine (HDg.out _ HB1.out).mono ?_; rintro e w2 ⟨rfl, hb2⟩; have HB2 := hid (bel_step HB1.out hb2); clear hb2)
        | (go_at_call 28; refine (HR.out _).mono ?_; rintro e w3 ⟨rfl, hb3⟩; have HB3 := hid (bel_step HB2.out hb3); clear hb3))
      go_ret2
      exact ⟨by rw [HE.out]; rfl, HB3.out⟩
  · have HDg := hid (fun X h => gdigits_any (n % m + gH m) (gB m) X (by omega) (hgb (by omega)) (HT.out X h))
    have hT1 := HTl.out.trans (if_neg hr)
    rw [← hT1] at HDg
    have hrI : ¬ ((n % m : Nat) : Int) < (gH m : Int) := by omega
    have hrw : IntKind.i64.wrap (((n % m : Nat) : Int) + (gH m : Int)) = ((n % m + gH m : Nat) : Int) := by rw [show ((n % m : Nat) : Int) + (gH m : Int) = ((n % m + gH m : Nat) : Int) by omega]; exact IntWalk.i64_in _ (by omega)
    clear hT HT HTl hga hgb hT1 hr hh
    generalize hT0 : golT m (n % m) = T at *
    have hsz : (strW T).size = T.length := strW_size T
    clear hT0
    generalize hL : T.length = L at *
    generalize hS : strW T = S at *
    have HS := hid hS
    clear hS
    generalize n / m = q at *
    generalize n % m = r at *
    generalize gB m = B at *
    generalize gH m = H at *
    by_cases hbig : 65535 - L < q
    · have hb1 : (65535 : Int) - (L : Int) < (q : Int) := by omega
      have HE := hid (HV.out.trans (if_pos hbig))
      clear hbig
      go_enter Tryz.func8, Tryz.ntmps8
      go_wp2_with (first
        | (go_at_call 26; refine (HTr.out _).mono ?_; rintro e w1 ⟨rfl, hb1⟩; have HB1 := hid hb1; clear hb1)
        | (go_at_call 27; refine (HDg.out _ HB1.out).mono ?_; rintro e w2 ⟨rfl, hb2⟩; have HB2 := hid (bel_step HB1.out hb2); clear hb2))
      go_ret2
      exact ⟨by rw [HE.out]; rfl, HB2.out⟩
    · have hb1 : ¬ (65535 : Int) - (L : Int) < (q : Int) := by omega
      have HE := hid (HV.out.trans (if_neg hbig))
      have HR := hid (fun X => rep_any 49 q X (by omega))
      have HC1 := hid (fun X => cat_strW (List.replicate q 49) [48] X (by rw [List.length_replicate]; show q + 1 ≤ _; omega))
      have HC2 := hid (fun X => cat_strW (List.replicate q 49 ++ [48]) T X (by rw [List.length_append, List.length_replicate, hL]; show q + 1 + L ≤ _; omega))
      rw [List.append_assoc, List.singleton_append, ← HG.out, HS.out] at HC2
      have hc1 := fun X => HC1.out X
      have hc2 := fun X => HC2.out X
      change ∀ X : World, (Op.stringOp .add (strW (List.replicate q 49)) ⟨#[48]⟩).run Tryz.prog X = .ok (.string (strW (List.replicate q 49 ++ [48]))) X at hc1
      clear hbig HG hL HC1 HC2
      generalize strW (List.replicate q 49 ++ [48]) = A2 at *
      generalize strW (List.replicate q 49) = A1 at *
      generalize strW (golW m n) = A3 at *
      go_enter Tryz.func8, Tryz.ntmps8
      go_wp2_with (first
        | (go_at_call 26; refine (HTr.out _).mono ?_; rintro e w1 ⟨rfl, hb1⟩; have HB1 := hid hb1; clear hb1)
        | (go_at_call 27; refine (HDg.out _ HB1.out).mono ?_; rintro e w2 ⟨rfl, hb2⟩; have HB2 := hid (bel_step HB1.out hb2); clear hb2)
        | (go_at_call 28; refine (HR.out _).mono ?_; rintro e w3 ⟨rfl, hb3⟩; have HB3 := hid (bel_step HB2.out hb3); clear hb3))
      go_ret2
      exact ⟨by rw [HE.out]; rfl, HB3.out⟩
end Go.Proofs.YtieahckbbohfgaaGreatDoor
