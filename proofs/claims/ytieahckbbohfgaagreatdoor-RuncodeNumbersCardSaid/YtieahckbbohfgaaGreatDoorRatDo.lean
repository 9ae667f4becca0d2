/-
  rational: the table of operations, the sum and the product, Add, Mul at numbers of one digit.
  The numbers are less than 2^32, and so are the products that are made.
-/
import Derived.Test.YtieahckbbohfgaaGreatDoorRatOps
namespace Go.Proofs.YtieahckbbohfgaaGreatDoor
open Go.RowKit Go.Deep
set_option linter.unusedVariables false

theorem boxed2I {w w0 : World} {a b c d e f g h : Value} (hh : (((w.alloc (.cells #[a, b, c, d] 58)).alloc (.cells #[e, f, g, h] 58)).alloc (.cells #[.bool false, .string ⟨#[]⟩] 56)).alloc (.cells #[.bool false, .string ⟨#[]⟩] 56) = w0) :
    Below w.heap.size w w0 ∧ (w0.cell? ⟨w.heap.size, 0, none⟩ = some a ∧ w0.cell? ⟨w.heap.size, 1, none⟩ = some b ∧ w0.cell? ⟨w.heap.size, 2, none⟩ = some c ∧ w0.cell? ⟨w.heap.size, 3, none⟩ = some d) ∧ (w0.cell? ⟨w.heap.size + 1, 0, none⟩ = some e ∧ w0.cell? ⟨w.heap.size + 1, 1, none⟩ = some f ∧ w0.cell? ⟨w.heap.size + 1, 2, none⟩ = some g ∧ w0.cell? ⟨w.heap.size + 1, 3, none⟩ = some h) ∧ zeroI w0 (w.heap.size + 2) ∧ zeroI w0 (w.heap.size + 3) := by
  generalize hw1 : (w.alloc (.cells #[a, b, c, d] 58)).alloc (.cells #[e, f, g, h] 58) = w1 at hh
  have hs : w1.heap.size = w.heap.size + 2 := by rw [← hw1]; simp
  have h1 : Below w.heap.size w w1 := by rw [← hw1]; exact (bel_alloc _ _).alloc (by simp) _
  have h2 : Below w1.heap.size w1 w0 := by rw [← hh]; exact (bel_alloc _ _).alloc (by simp) _
  refine ⟨bel_step h1 h2, ⟨keeps h2 ?_, keeps h2 ?_, keeps h2 ?_, keeps h2 ?_⟩, ⟨keeps h2 ?_, keeps h2 ?_, keeps h2 ?_, keeps h2 ?_⟩, ?_, ?_⟩
  any_goals (rw [← hw1]; simp [go_sem]; done)
  · have := heap_alloc_new w1 (.cells #[.bool false, .string ⟨#[]⟩] 56)
    rw [hs] at this
    have h3 : zeroI (w1.alloc (.cells #[.bool false, .string ⟨#[]⟩] 56)) (w.heap.size + 2) := this
    rw [← hh]
    exact h3.below (bel_alloc _ _)
  · have := heap_alloc_new (w1.alloc (.cells #[.bool false, .string ⟨#[]⟩] 56)) (.cells #[.bool false, .string ⟨#[]⟩] 56)
    rw [World.size_alloc, hs, hh] at this
    exact this
set_option maxRecDepth 100000 in
set_option maxHeartbeats 4000000 in
theorem sum_any (a b c d : Nat) (w : World) (ha : a < 4294967296) (hb : b < 4294967296) (hc : c < 4294967296) (hd : d < 4294967296) (h1 : a * d < 4294967296) (h2 : c * b < 4294967296) :
    Calls Tryz.prog 145 #[RV a b, RV c d] w fun e w' => e = .returned (.tuple #[.agg #[.bool false, .string (nmg (a * d + c * b))], .agg #[.bool false, .string (nmg (b * d))]]) ∧ Below w.heap.size w w' := by
  have HM1 := hid (fun X => mulN_any a d X ha hd)
  have HM2 := hid (fun X => mulN_any c b X hc hb)
  have HM3 := hid (fun X => mulN_any b d X hb hd)
  have HA := hid (fun X => addN_any (a * d) (c * b) X h1 h2)
  unfold RV
  generalize nmg (a * d + c * b) = mS at *
  generalize nmg (a * d) = mP at *
  generalize nmg (c * b) = mQ at *
  generalize nmg (b * d) = mR at *
  generalize nmg a = mA at *
  generalize nmg b = mB at *
  generalize nmg c = mC at *
  generalize nmg d = mD at *
  clear h1 h2 ha hb hc hd
  go_enter Tryz.func145, Tryz.ntmps145
  go_upto_region 1 with fail
  obtain ⟨w0, hw0⟩ : ∃ w0, (((w.alloc (.cells #[.bool false, .string mA, .bool false, .string mB] 58)).alloc (.cells #[.bool false, .string mC, .bool false, .string mD] 58)).alloc (.cells #[.bool false, .string ⟨#[]⟩] 56)).alloc (.cells #[.bool false, .string ⟨#[]⟩] 56) = w0 := ⟨_, rfl⟩
  obtain ⟨hb0, ⟨a0, a1, a2, a3⟩, ⟨b0, b1, b2, b3⟩, hz, hy⟩ := boxed2I hw0
  rw [hw0]
  have HB0 := hid hb0
  have HZ0 := hid hz
  have HY0 := hid hy
  clear hw0 hb0 hz hy
  have hbd : Below w0.heap.size w0 w0.drew := below_drewN (Below.refl _ _) 1
  have HBd := hid hbd
  clear hbd
  go_region_held3 (fun w' => (w'.cell? ⟨w.heap.size, 0, none⟩ = some (.bool false) ∧ w'.cell? ⟨w.heap.size, 1, none⟩ = some (.string mA) ∧ w'.cell? ⟨w.heap.size, 2, none⟩ = some (.bool false) ∧ w'.cell? ⟨w.heap.size, 3, none⟩ = some (.string mB)) ∧ (w'.cell? ⟨w.heap.size + 1, 0, none⟩ = some (.bool false) ∧ w'.cell? ⟨w.heap.size + 1, 1, none⟩ = some (.string mC) ∧ w'.cell? ⟨w.heap.size + 1, 2, none⟩ = some (.bool false) ∧ w'.cell? ⟨w.heap.size + 1, 3, none⟩ = some (.string mD)))
    (first | exact ⟨⟨a0, a1, a2, a3⟩, b0, b1, b2, b3⟩ | (have e1 : w.heap.size + 1 + 1 ≠ w.heap.size := (by omega); have e2 : w.heap.size + 1 + 1 ≠ w.heap.size + 1 := (by omega); exact ⟨⟨far2 a0 e1, far2 a1 e1, far2 a2 e1, far2 a3 e1⟩, far2 b0 e2, far2 b1 e2, far2 b2 e2, far2 b3 e2⟩) | (have e1 : w.heap.size + 1 + 1 ≠ w.heap.size := (by omega); have e2 : w.heap.size + 1 + 1 ≠ w.heap.size + 1 := (by omega); have e3 : w.heap.size + 1 + 1 + 1 ≠ w.heap.size := (by omega); have e4 : w.heap.size + 1 + 1 + 1 ≠ w.heap.size + 1 := (by omega); exact ⟨⟨far2 (far2 a0 e1) e3, far2 (far2 a1 e1) e3, far2 (far2 a2 e1) e3, far2 (far2 a3 e1) e3⟩, far2 (far2 b0 e2) e4, far2 (far2 b1 e2) e4, far2 (far2 b2 e2) e4, far2 (far2 b3 e2) e4⟩) | go_keep)
    (first
      | (have _g := HB3.out; clear _g; go_at_call 88; refine (HM3.out _).mono ?_; rintro e w4 ⟨rfl, hb4⟩; have hbx := bel_step HB3.out hb4; have HB4 := hid (bel_step HB0.out hbx); obtain ⟨⟨z0, z1⟩, f0, f1⟩ := (HZ0.out.below hbx).c; obtain ⟨⟨y0, y1⟩, g0, g1⟩ := (HY0.out.below hbx).c; have a0 := keeps hb4 a0; have a1 := keeps hb4 a1; have a2 := keeps hb4 a2; have a3 := keeps hb4 a3; have b0 := keeps hb4 b0; have b1 := keeps hb4 b1; have b2 := keeps hb4 b2; have b3 := keeps hb4 b3; clear hb4 hbx)
      | (have _g := HB2.out; clear _g; go_at_call 146; refine (HA.out _).mono ?_; rintro e w3 ⟨rfl, hb3⟩; have HB3 := hid (bel_step HB2.out hb3); have a0 := keeps hb3 a0; have a1 := keeps hb3 a1; have a2 := keeps hb3 a2; have a3 := keeps hb3 a3; have b0 := keeps hb3 b0; have b1 := keeps hb3 b1; have b2 := keeps hb3 b2; have b3 := keeps hb3 b3; clear hb3)
      | (have _g := HB1.out; clear _g; go_at_call 88; refine (HM2.out _).mono ?_; rintro e w2 ⟨rfl, hb2⟩; have HB2 := hid (bel_step HB1.out hb2); have a0 := keeps hb2 a0; have a1 := keeps hb2 a1; have a2 := keeps hb2 a2; have a3 := keeps hb2 a3; have b0 := keeps hb2 b0; have b1 := keeps hb2 b1; have b2 := keeps hb2 b2; have b3 := keeps hb2 b3; clear hb2)
      | (go_at_call 88; refine (HM1.out _).mono ?_; rintro e w1 ⟨rfl, hb1⟩; have hb1 := bel_step HBd.out hb1; have HB1 := hid hb1; have a0 := keeps hb1 a0; have a1 := keeps hb1 a1; have a2 := keeps hb1 a2; have a3 := keeps hb1 a3; have b0 := keeps hb1 b0; have b1 := keeps hb1 b1; have b2 := keeps hb1 b2; have b3 := keeps hb1 b3; clear hb1))
  all_goals
    go_wp2
    refine bodyPost_ret (v := .tuple #[.agg #[.bool false, .string mS], .agg #[.bool false, .string mR]]) ?_ rfl ⟨rfl, ?_⟩
    · simp [results, Tryz.results145, go_sem, z0, z1, y0, y1]
    · exact (((HB4.out.setCell (by show w.heap.size ≤ w.heap.size + 1 + 1; omega) _).setCell (by show w.heap.size ≤ w.heap.size + 1 + 1; omega) _).setCell (by show w.heap.size ≤ w.heap.size + 1 + 1 + 1; omega) _).setCell (by show w.heap.size ≤ w.heap.size + 1 + 1 + 1; omega) _
set_option maxRecDepth 100000 in
set_option maxHeartbeats 4000000 in
theorem product_any (a b c d : Nat) (w : World) (ha : a < 4294967296) (hb : b < 4294967296) (hc : c < 4294967296) (hd : d < 4294967296) :
    Calls Tryz.prog 148 #[RV a b, RV c d] w fun e w' => e = .returned (.tuple #[.agg #[.bool false, .string (nmg (a * c))], .agg #[.bool false, .string (nmg (b * d))]]) ∧ Below w.heap.size w w' := by
  have HM1 := hid (fun X => mulN_any a c X ha hc)
  have HM2 := hid (fun X => mulN_any b d X hb hd)
  unfold RV
  generalize nmg (a * c) = mP at *
  generalize nmg (b * d) = mR at *
  generalize nmg a = mA at *
  generalize nmg b = mB at *
  generalize nmg c = mC at *
  generalize nmg d = mD at *
  clear ha hb hc hd
  go_enter Tryz.func148, Tryz.ntmps148
  go_upto_region 1 with fail
  obtain ⟨w0, hw0⟩ : ∃ w0, (((w.alloc (.cells #[.bool false, .string mA, .bool false, .string mB] 58)).alloc (.cells #[.bool false, .string mC, .bool false, .string mD] 58)).alloc (.cells #[.bool false, .string ⟨#[]⟩] 56)).alloc (.cells #[.bool false, .string ⟨#[]⟩] 56) = w0 := ⟨_, rfl⟩
  obtain ⟨hb0, ⟨a0, a1, a2, a3⟩, ⟨b0, b1, b2, b3⟩, hz, hy⟩ := boxed2I hw0
  rw [hw0]
  have HB0 := hid hb0
  have HZ0 := hid hz
  have HY0 := hid hy
  clear hw0 hb0 hz hy
  have hbd : Below w0.heap.size w0 w0.drew := below_drewN (Below.refl _ _) 1
  have HBd := hid hbd
  clear hbd
  go_region_held3 (fun w' => (w'.cell? ⟨w.heap.size, 0, none⟩ = some (.bool false) ∧ w'.cell? ⟨w.heap.size, 1, none⟩ = some (.string mA) ∧ w'.cell? ⟨w.heap.size, 2, none⟩ = some (.bool false) ∧ w'.cell? ⟨w.heap.size, 3, none⟩ = some (.string mB)) ∧ (w'.cell? ⟨w.heap.size + 1, 0, none⟩ = some (.bool false) ∧ w'.cell? ⟨w.heap.size + 1, 1, none⟩ = some (.string mC) ∧ w'.cell? ⟨w.heap.size + 1, 2, none⟩ = some (.bool false) ∧ w'.cell? ⟨w.heap.size + 1, 3, none⟩ = some (.string mD)))
    (first | exact ⟨⟨a0, a1, a2, a3⟩, b0, b1, b2, b3⟩ | (have e1 : w.heap.size + 1 + 1 ≠ w.heap.size := (by omega); have e2 : w.heap.size + 1 + 1 ≠ w.heap.size + 1 := (by omega); exact ⟨⟨far2 a0 e1, far2 a1 e1, far2 a2 e1, far2 a3 e1⟩, far2 b0 e2, far2 b1 e2, far2 b2 e2, far2 b3 e2⟩) | (have e1 : w.heap.size + 1 + 1 ≠ w.heap.size := (by omega); have e2 : w.heap.size + 1 + 1 ≠ w.heap.size + 1 := (by omega); have e3 : w.heap.size + 1 + 1 + 1 ≠ w.heap.size := (by omega); have e4 : w.heap.size + 1 + 1 + 1 ≠ w.heap.size + 1 := (by omega); exact ⟨⟨far2 (far2 a0 e1) e3, far2 (far2 a1 e1) e3, far2 (far2 a2 e1) e3, far2 (far2 a3 e1) e3⟩, far2 (far2 b0 e2) e4, far2 (far2 b1 e2) e4, far2 (far2 b2 e2) e4, far2 (far2 b3 e2) e4⟩) | go_keep)
    (first
      | (have _g := HB1.out; clear _g; go_at_call 88; refine (HM2.out _).mono ?_; rintro e w4 ⟨rfl, hb4⟩; have hbx := bel_step HB1.out hb4; have HB4 := hid (bel_step HB0.out hbx); obtain ⟨⟨z0, z1⟩, f0, f1⟩ := (HZ0.out.below hbx).c; obtain ⟨⟨y0, y1⟩, g0, g1⟩ := (HY0.out.below hbx).c; have a0 := keeps hb4 a0; have a1 := keeps hb4 a1; have a2 := keeps hb4 a2; have a3 := keeps hb4 a3; have b0 := keeps hb4 b0; have b1 := keeps hb4 b1; have b2 := keeps hb4 b2; have b3 := keeps hb4 b3; clear hb4 hbx)
      | (go_at_call 88; refine (HM1.out _).mono ?_; rintro e w1 ⟨rfl, hb1⟩; have hb1 := bel_step HBd.out hb1; have HB1 := hid hb1; have a0 := keeps hb1 a0; have a1 := keeps hb1 a1; have a2 := keeps hb1 a2; have a3 := keeps hb1 a3; have b0 := keeps hb1 b0; have b1 := keeps hb1 b1; have b2 := keeps hb1 b2; have b3 := keeps hb1 b3; clear hb1))
  all_goals
    go_wp2
    refine bodyPost_ret (v := .tuple #[.agg #[.bool false, .string mP], .agg #[.bool false, .string mR]]) ?_ rfl ⟨rfl, ?_⟩
    · simp [results, Tryz.results148, go_sem, z0, z1, y0, y1]
    · exact (((HB4.out.setCell (by show w.heap.size ≤ w.heap.size + 1 + 1; omega) _).setCell (by show w.heap.size ≤ w.heap.size + 1 + 1; omega) _).setCell (by show w.heap.size ≤ w.heap.size + 1 + 1 + 1; omega) _).setCell (by show w.heap.size ≤ w.heap.size + 1 + 1 + 1; omega) _
end Go.Proofs.YtieahckbbohfgaaGreatDoor
