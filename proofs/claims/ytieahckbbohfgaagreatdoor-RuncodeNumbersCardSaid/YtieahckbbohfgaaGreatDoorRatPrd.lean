/-
  rational.do: the product at numbers of one digit in their lowest form.
  The numbers are less than 2^32, and so are the products that are made.
-/
import Derived.Test.YtieahckbbohfgaaGreatDoorRatAll
namespace Go.Proofs.YtieahckbbohfgaaGreatDoor
open Go.RowKit Go.Deep
set_option linter.unusedVariables false

set_option maxRecDepth 100000 in
set_option maxHeartbeats 4000000 in
theorem doProd_any (a b c d : Nat) (w : World) (h : Sml a b c d) (h1 : Cop a b) (h2 : Cop c d) :
    Calls Tryz.prog 84 #[.int .i64 2, RV a b, RV c d] w fun e w' => e = .returned (RV (lowN (a * c) (b * d)) (lowD (a * c) (b * d))) ∧ Below w.heap.size w w' := by
  have HTb := hid (fun X => table_any X)
  have hix := ops_product
  have hfd := fld_product
  unfold opsV at HTb hix
  have HC1 := hid (fun X => canonical_any a b X h.pa h.pb)
  have HC2 := hid (fun X => canonical_any c d X h.pc h.pd)
  rw [h1.1, h1.2] at HC1
  rw [h2.1, h2.2] at HC2
  have HS := hid (fun X => product_any a b c d X h.pa h.pb h.pc h.pd)
  have HL := hid (fun X => lowest_any (a * c) (b * d) X h.ac h.bd)
  clear h h1 h2
  unfold RV at *
  generalize nmg (lowN (a * c) (b * d)) = mP at *
  generalize nmg (lowD (a * c) (b * d)) = mQ at *
  generalize nmg (a * c) = mS at *
  generalize nmg (b * d) = mR at *
  generalize nmg a = mA at *
  generalize nmg b = mB at *
  generalize nmg c = mC at *
  generalize nmg d = mD at *
  go_enter Tryz.func84, Tryz.ntmps84
  go_upto_region 1 with fail
  obtain ⟨w0, hw0⟩ : ∃ w0, ((w.alloc (.cells #[.bool false, .string mA, .bool false, .string mB] 58)).alloc (.cells #[.bool false, .string mC, .bool false, .string mD] 58)).alloc (.cells #[.bool false, .string ⟨#[]⟩, .bool false, .string ⟨#[]⟩] 58) = w0 := ⟨_, rfl⟩
  obtain ⟨hb0, ⟨a0, a1, a2, a3⟩, ⟨b0, b1, b2, b3⟩, hz⟩ := boxed3R hw0
  rw [hw0]
  have HB0 := hid hb0
  have HZ0 := hid hz
  clear hw0 hb0 hz
  have hbd : Below w0.heap.size w0 w0.drew := below_drewN (Below.refl _ _) 1
  have HBd := hid hbd
  clear hbd
  go_region_held3 (fun w' => (w'.cell? ⟨w.heap.size, 0, none⟩ = some (.bool false) ∧ w'.cell? ⟨w.heap.size, 1, none⟩ = some (.string mA) ∧ w'.cell? ⟨w.heap.size, 2, none⟩ = some (.bool false) ∧ w'.cell? ⟨w.heap.size, 3, none⟩ = some (.string mB)) ∧ (w'.cell? ⟨w.heap.size + 1, 0, none⟩ = some (.bool false) ∧ w'.cell? ⟨w.heap.size + 1, 1, none⟩ = some (.string mC) ∧ w'.cell? ⟨w.heap.size + 1, 2, none⟩ = some (.bool false) ∧ w'.cell? ⟨w.heap.size + 1, 3, none⟩ = some (.string mD)))
    (first | exact ⟨⟨a0, a1, a2, a3⟩, b0, b1, b2, b3⟩ | (have e1 : w.heap.size + 1 + 1 ≠ w.heap.size := (by omega); have e2 : w.heap.size + 1 + 1 ≠ w.heap.size + 1 := (by omega); exact ⟨⟨far4 a0 e1, far4 a1 e1, far4 a2 e1, far4 a3 e1⟩, far4 b0 e2, far4 b1 e2, far4 b2 e2, far4 b3 e2⟩) | go_keep)
    (first
      | (have _g := HB4.out; clear _g; go_at_call 112; refine (HL.out _).mono ?_; rintro e w5 ⟨rfl, hb5⟩; have hbx := bel_step HB4.out hb5; have HB5 := hid (bel_step HB0.out hbx); obtain ⟨⟨z0, z1, z2, z3⟩, f0, f1, f2, f3⟩ := (HZ0.out.below hbx).c; have a0 := keeps hb5 a0; have a1 := keeps hb5 a1; have a2 := keeps hb5 a2; have a3 := keeps hb5 a3; have b0 := keeps hb5 b0; have b1 := keeps hb5 b1; have b2 := keeps hb5 b2; have b3 := keeps hb5 b3; clear hb5 hbx)
      | (have _g := HB3.out; clear _g; go_at_call 148; refine (HS.out _).mono ?_; rintro e w4 ⟨rfl, hb4⟩; have HB4 := hid (bel_step HB3.out hb4); have a0 := keeps hb4 a0; have a1 := keeps hb4 a1; have a2 := keeps hb4 a2; have a3 := keeps hb4 a3; have b0 := keeps hb4 b0; have b1 := keeps hb4 b1; have b2 := keeps hb4 b2; have b3 := keeps hb4 b3; clear hb4)
      | (have _g := HB2.out; clear _g; go_at_call 86; refine (HC2.out _).mono ?_; rintro e w3 ⟨rfl, hb3⟩; have HB3 := hid (bel_step HB2.out hb3); have a0 := keeps hb3 a0; have a1 := keeps hb3 a1; have a2 := keeps hb3 a2; have a3 := keeps hb3 a3; have b0 := keeps hb3 b0; have b1 := keeps hb3 b1; have b2 := keeps hb3 b2; have b3 := keeps hb3 b3; clear hb3)
      | (have _g := HB1.out; clear _g; go_at_call 86; refine (HC1.out _).mono ?_; rintro e w2 ⟨rfl, hb2⟩; have HB2 := hid (bel_step HB1.out hb2); have a0 := keeps hb2 a0; have a1 := keeps hb2 a1; have a2 := keeps hb2 a2; have a3 := keeps hb2 a3; have b0 := keeps hb2 b0; have b1 := keeps hb2 b1; have b2 := keeps hb2 b2; have b3 := keeps hb2 b3; clear hb2)
      | (go_at_call 113; refine (HTb.out _).mono ?_; rintro e w1 ⟨rfl, hb1⟩; have hb1 := bel_step HBd.out hb1; have HB1 := hid hb1; have a0 := keeps hb1 a0; have a1 := keeps hb1 a1; have a2 := keeps hb1 a2; have a3 := keeps hb1 a3; have b0 := keeps hb1 b0; have b1 := keeps hb1 b1; have b2 := keeps hb1 b2; have b3 := keeps hb1 b3; clear hb1))
  all_goals
    go_wp2
    refine bodyPost_ret (v := .agg #[.bool false, .string mP, .bool false, .string mQ]) ?_ rfl ⟨rfl, ?_⟩
    · simp [results, Tryz.results84, go_sem, z0, z1, z2, z3]
    · exact bel_set4 HB5.out (by omega) _ _ _ _
end Go.Proofs.YtieahckbbohfgaaGreatDoor
