/-
  rational: Add, Mul, Compare, Check at numbers of one digit.
  The numbers are less than 2^32, and so are the products that are made.
-/
import Derived.Test.YtieahckbbohfgaaGreatDoorRatPrd
import Derived.Test.YtieahckbbohfgaaGreatDoorRatEq
namespace Go.Proofs.YtieahckbbohfgaaGreatDoor
open Go.RowKit Go.Deep
set_option linter.unusedVariables false

set_option maxRecDepth 100000 in
set_option maxHeartbeats 4000000 in
theorem radd_any (a b c d : Nat) (w : World) (h : Sml a b c d) (h1 : Cop a b) (h2 : Cop c d) :
    Calls Tryz.prog 83 #[RV a b, RV c d] w fun e w' => e = .returned (RV (lowN (a * d + c * b) (b * d)) (lowD (a * d + c * b) (b * d))) ∧ Below w.heap.size w w' := by
  have HD := hid (fun X => doSum_any a b c d X h h1 h2)
  clear h h1 h2
  unfold RV at *
  generalize nmg (lowN (a * d + c * b) (b * d)) = mP at *
  generalize nmg (lowD (a * d + c * b) (b * d)) = mQ at *
  generalize nmg a = mA at *
  generalize nmg b = mB at *
  generalize nmg c = mC at *
  generalize nmg d = mD at *
  go_enter Tryz.func83, Tryz.ntmps83
  go_upto_region 1 with fail
  obtain ⟨w0, hw0⟩ : ∃ w0, ((w.alloc (.cells #[.bool false, .string mA, .bool false, .string mB] 58)).alloc (.cells #[.bool false, .string mC, .bool false, .string mD] 58)).alloc (.cells #[.bool false, .string ⟨#[]⟩, .bool false, .string ⟨#[]⟩] 58) = w0 := ⟨_, rfl⟩
  obtain ⟨hb0, ⟨a0, a1, a2, a3⟩, ⟨b0, b1, b2, b3⟩, hz⟩ := boxed3R hw0
  rw [hw0]
  have HB0 := hid hb0
  have HZ0 := hid hz
  clear hw0 hb0 hz
  go_wp2_with (go_at_call 84; refine (HD.out _).mono ?_; rintro e w1 ⟨rfl, hb1⟩; have HB1 := hid (bel_step HB0.out hb1); obtain ⟨⟨z0, z1, z2, z3⟩, f0, f1, f2, f3⟩ := (HZ0.out.below hb1).c; clear hb1)
  refine bodyPost_ret (v := .agg #[.bool false, .string mP, .bool false, .string mQ]) ?_ rfl ⟨rfl, ?_⟩
  · simp [results, Tryz.results83, go_sem, z0, z1, z2, z3]
  · exact bel_set4 HB1.out (by omega) _ _ _ _
set_option maxRecDepth 100000 in
set_option maxHeartbeats 4000000 in
theorem rmul_any (a b c d : Nat) (w : World) (h : Sml a b c d) (h1 : Cop a b) (h2 : Cop c d) :
    Calls Tryz.prog 53 #[RV a b, RV c d] w fun e w' => e = .returned (RV (lowN (a * c) (b * d)) (lowD (a * c) (b * d))) ∧ Below w.heap.size w w' := by
  have HD := hid (fun X => doProd_any a b c d X h h1 h2)
  clear h h1 h2
  unfold RV at *
  generalize nmg (lowN (a * c) (b * d)) = mP at *
  generalize nmg (lowD (a * c) (b * d)) = mQ at *
  generalize nmg a = mA at *
  generalize nmg b = mB at *
  generalize nmg c = mC at *
  generalize nmg d = mD at *
  go_enter Tryz.func53, Tryz.ntmps53
  go_upto_region 1 with fail
  obtain ⟨w0, hw0⟩ : ∃ w0, ((w.alloc (.cells #[.bool false, .string mA, .bool false, .string mB] 58)).alloc (.cells #[.bool false, .string mC, .bool false, .string mD] 58)).alloc (.cells #[.bool false, .string ⟨#[]⟩, .bool false, .string ⟨#[]⟩] 58) = w0 := ⟨_, rfl⟩
  obtain ⟨hb0, ⟨a0, a1, a2, a3⟩, ⟨b0, b1, b2, b3⟩, hz⟩ := boxed3R hw0
  rw [hw0]
  have HB0 := hid hb0
  have HZ0 := hid hz
  clear hw0 hb0 hz
  go_wp2_with (go_at_call 84; refine (HD.out _).mono ?_; rintro e w1 ⟨rfl, hb1⟩; have HB1 := hid (bel_step HB0.out hb1); obtain ⟨⟨z0, z1, z2, z3⟩, f0, f1, f2, f3⟩ := (HZ0.out.below hb1).c; clear hb1)
  refine bodyPost_ret (v := .agg #[.bool false, .string mP, .bool false, .string mQ]) ?_ rfl ⟨rfl, ?_⟩
  · simp [results, Tryz.results53, go_sem, z0, z1, z2, z3]
  · exact bel_set4 HB1.out (by omega) _ _ _ _
set_option maxRecDepth 100000 in
set_option maxHeartbeats 4000000 in
theorem rcheck_any (a b : Nat) (w : World) (ha : a < 4294967296) (hb : b < 4294967296) (h1 : Cop a b) :
    Calls Tryz.prog 81 #[RV a b] w fun e w' => e = .returned (.int .i64 0) ∧ Below w.heap.size w w' := by
  have HC := hid (fun X => canonical_any a b X ha hb)
  rw [h1.1, h1.2] at HC
  clear h1
  unfold RV at *
  generalize nmg a = mA at *
  generalize nmg b = mB at *
  have hne := fun w => neq_rat mA mB w
  have hgd := fun op p q xs ys w => guard_rat op p q xs ys w
  go_enter Tryz.func81, Tryz.ntmps81
  go_upto_region 1 with fail
  obtain ⟨w0, hw0⟩ : ∃ w0, w.alloc (.cells #[.bool false, .string mA, .bool false, .string mB] 58) = w0 := ⟨_, rfl⟩
  obtain ⟨hb0, a0, a1, a2, a3⟩ := box4R hw0
  rw [hw0]
  have HB0 := hid hb0
  clear hw0 hb0
  have hbd : Below w0.heap.size w0 w0.drew := below_drewN (Below.refl _ _) 1
  have HBd := hid hbd
  clear hbd
  go_region_held3 (fun w' => w'.cell? ⟨w.heap.size, 0, none⟩ = some (.bool false) ∧ w'.cell? ⟨w.heap.size, 1, none⟩ = some (.string mA) ∧ w'.cell? ⟨w.heap.size, 2, none⟩ = some (.bool false) ∧ w'.cell? ⟨w.heap.size, 3, none⟩ = some (.string mB))
    (first | exact ⟨a0, a1, a2, a3⟩ | go_keep)
    (first | (go_at_call 86; refine (HC.out _).mono ?_; rintro e w1 ⟨rfl, hb1⟩; have hb1 := bel_step HBd.out hb1; have HB1 := hid (bel_step HB0.out hb1); have a0 := keeps hb1 a0; have a1 := keeps hb1 a1; have a2 := keeps hb1 a2; have a3 := keeps hb1 a3; clear hb1))
  all_goals
    go_wp2
    go_ret
    exact ⟨rfl, HB1.out⟩
theorem compare_nat (a b : Nat) (w : World) (ha : a < 18446744073709551616) (hb : b < 18446744073709551616) : Calls Tryz.prog 87 #[.agg #[.bool false, .string (nmg a)], .agg #[.bool false, .string (nmg b)]] w fun e w' => e = .returned (.int .i64 (cmpI (a : Int) (b : Int))) ∧ Below w.heap.size w w' := by
  have h1 := compareI_any (a : Int) (b : Int) w (fits_small ha) (fits_small hb)
  rw [(nat_int a).1, (nat_int a).2, (nat_int b).1, (nat_int b).2] at h1
  exact h1
end Go.Proofs.YtieahckbbohfgaaGreatDoor
