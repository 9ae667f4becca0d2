/-
  integer.Div at numbers of one digit.
  The numbers are less than 2^32, the divisor is not 0.
-/
import Derived.Test.YtieahckbbohfgaaGreatDoorRatMul
namespace Go.Proofs.YtieahckbbohfgaaGreatDoor
open Go.RowKit Go.Deep
set_option linter.unusedVariables false

theorem boxed4 {w w0 : World} {a b c d : Value} (h : (((w.alloc (.cells #[a, b] 56)).alloc (.cells #[c, d] 56)).alloc (.cells #[.bool false, .string ⟨#[]⟩] 56)).alloc (.cells #[.bool false, .string ⟨#[]⟩] 56) = w0) : Below w.heap.size w w0 ∧ (w0.cell? ⟨w.heap.size, 0, none⟩ = some a ∧ w0.cell? ⟨w.heap.size, 1, none⟩ = some b ∧ w0.cell? ⟨w.heap.size + 1, 0, none⟩ = some c ∧ w0.cell? ⟨w.heap.size + 1, 1, none⟩ = some d) ∧ zeroI w0 (w.heap.size + 2) ∧ zeroI w0 (w.heap.size + 3) := by
  generalize hw1 : ((w.alloc (.cells #[a, b] 56)).alloc (.cells #[c, d] 56)).alloc (.cells #[.bool false, .string ⟨#[]⟩] 56) = w1 at h
  have hs : w1.heap.size = w.heap.size + 3 := by rw [← hw1]; simp
  obtain ⟨h1, ⟨c0, c1, c2, c3⟩, h2⟩ := boxed3 hw1
  have hb : Below w1.heap.size w1 w0 := by rw [← h]; exact bel_alloc _ _
  refine ⟨bel_step h1 hb, ⟨keeps hb c0, keeps hb c1, keeps hb c2, keeps hb c3⟩, zeroI.below h2 hb, ?_⟩
  have := heap_alloc_new w1 (.cells #[.bool false, .string ⟨#[]⟩] 56)
  rw [h, hs] at this
  exact this
set_option maxRecDepth 100000 in
set_option maxHeartbeats 4000000 in
theorem divN_any (a b : Nat) (w : World) (ha : a < 4294967296) (hb : b < 4294967296) (b0 : b ≠ 0) :
    Calls Tryz.prog 144 #[.agg #[.bool false, .string (nmg a)], .agg #[.bool false, .string (nmg b)]] w fun e w' => e = .returned (.tuple #[.agg #[.bool false, .string (nmg (a / b))], .agg #[.bool false, .string (nmg (a % b))], .int .i64 0]) ∧ Below w.heap.size w w' := by
  have hq1 : a / b ≤ a := Nat.div_le_self _ _
  have hr1 : a % b < b := Nat.mod_lt _ (by omega)
  have HDa := hid (fun X => digsN_any a X (by omega))
  have HDb := hid (fun X => digsN_any b X (by omega))
  have HDv := hid (fun v1 v2 X h1 h2 => divide_small v1 v2 a b X h1 h2 ha hb b0)
  have HNq := hid (fun v X h => numberN_any v (a / b) X h (by omega))
  have HNr := hid (fun v X h => numberN_any v (a % b) X h (by omega))
  have hdb : (digs b).length = 1 := by rw [digs_one b0 hb]; rfl
  generalize nmg a = mA at *
  generalize nmg b = mB at *
  generalize hmQ : nmg (a / b) = mQ at *
  generalize hmR : nmg (a % b) = mR at *
  have HSl := hid (fun X v (h : Nt X v b) => nt_one h b0 hb)
  generalize a / b = q at *
  generalize a % b = r at *
  clear hq1 hr1 hmQ hmR
  go_enter Tryz.func144, Tryz.ntmps144
  go_upto_region 1 with fail
  obtain ⟨w0, hw0⟩ : ∃ w0, (((w.alloc (.cells #[.bool false, .string mA] 56)).alloc (.cells #[.bool false, .string mB] 56)).alloc (.cells #[.bool false, .string ⟨#[]⟩] 56)).alloc (.cells #[.bool false, .string ⟨#[]⟩] 56) = w0 := ⟨_, rfl⟩
  obtain ⟨hb0, ⟨c0, c1, c2, c3⟩, hz, hy⟩ := boxed4 hw0
  rw [hw0]
  have HB0 := hid hb0
  have HZ0 := hid hz
  have HY0 := hid hy
  clear hw0 hb0 hz hy
  have hbd : Below w0.heap.size w0 w0.drew := below_drewN (Below.refl _ _) 1
  have HBd := hid hbd
  clear hbd
  go_region_held3 (fun w' => w'.cell? ⟨w.heap.size, 0, none⟩ = some (.bool false) ∧ w'.cell? ⟨w.heap.size, 1, none⟩ = some (.string mA) ∧ w'.cell? ⟨w.heap.size + 1, 0, none⟩ = some (.bool false) ∧ w'.cell? ⟨w.heap.size + 1, 1, none⟩ = some (.string mB))
    (first | exact ⟨c0, c1, c2, c3⟩ | go_keep)
    (first
      | (have _g := HN1.out; clear _g; go_at_call 117; refine (HDb.out _).mono ?_; rintro e w2 ⟨⟨v2, rfl, hn2⟩, hb2⟩; have HN2 := hid hn2; have HN1 := hid (HN1.out.below hb2); have HB2 := hid (bel_step HB1.out hb2); have HZ2 := hid (HZ1.out.below hb2); have HY2 := hid (HY1.out.below hb2); have c0 := keeps hb2 c0; have c1 := keeps hb2 c1; have c2 := keeps hb2 c2; have c3 := keeps hb2 c3; clear hn2 hb2)
      | (go_at_call 117; refine (HDa.out _).mono ?_; rintro e w1 ⟨⟨v1, rfl, hn1⟩, hb1⟩; have HN1 := hid hn1; have hb1 := bel_step HBd.out hb1; have HB1 := hid (bel_step HB0.out hb1); have HZ1 := hid (HZ0.out.below hb1); have HY1 := hid (HY0.out.below hb1); have c0 := keeps hb1 c0; have c1 := keeps hb1 c1; have c2 := keeps hb1 c2; have c3 := keeps hb1 c3; clear hn1 hb1))
  obtain ⟨b9, o9, c9, rfl, _, _, _⟩ := HSl.out _ _ HN2.out
  go_upto_region 5 with (go_at_call 165; refine (HDv.out _ _ _ HN1.out HN2.out).mono ?_; rintro e w3 ⟨⟨vq, vr, rfl, hnq, hnr⟩, hb3⟩; have HQ3 := hid hnq; have HR3 := hid hnr; have HB3 := hid (bel_step HB2.out hb3); have HZ3 := hid (HZ2.out.below hb3); have HY3 := hid (HY2.out.below hb3); have c0 := keeps hb3 c0; have c1 := keeps hb3 c1; have c2 := keeps hb3 c2; have c3 := keeps hb3 c3; clear hnq hnr hb3)
  go_upto_region 7 with fail
  have hbd : Below w3.heap.size w3 w3.drew := below_drewN (Below.refl _ _) 1
  have HBd3 := hid hbd
  clear hbd
  go_region_held3 (fun w' => w'.cell? ⟨w.heap.size, 0, none⟩ = some (.bool false) ∧ w'.cell? ⟨w.heap.size + 1, 0, none⟩ = some (.bool false))
    (first | exact ⟨c0, c2⟩ | exact ⟨far2 c0 (by show w.heap.size + 1 + 1 ≠ w.heap.size; omega), far2 c2 (by show w.heap.size + 1 + 1 ≠ w.heap.size + 1; omega)⟩ | exact ⟨far2 (far2 c0 (by show w.heap.size + 1 + 1 ≠ w.heap.size; omega)) (by show w.heap.size + 1 + 1 + 1 ≠ w.heap.size; omega), far2 (far2 c2 (by show w.heap.size + 1 + 1 ≠ w.heap.size + 1; omega)) (by show w.heap.size + 1 + 1 + 1 ≠ w.heap.size + 1; omega)⟩ | go_keep)
    (first
      | (have _g := HB4.out; clear _g; go_at_call 114; refine (HNr.out _ _ (HR3.out.below (bel_step HBd3.out HB4.out))).mono ?_; rintro e w5 ⟨rfl, hb5⟩; have hbx := bel_step (bel_step HBd3.out HB4.out) hb5; have HB5 := hid (bel_step HB3.out hbx); obtain ⟨⟨z0, z1⟩, g0, g1⟩ := (HZ3.out.below hbx).c; obtain ⟨⟨y0, y1⟩, h0, h1⟩ := (HY3.out.below hbx).c; have c0 := keeps hb5 c0; have c2 := keeps hb5 c2; clear hb5 hbx)
      | (go_at_call 114; refine (HNq.out _ _ (HQ3.out.below HBd3.out)).mono ?_; rintro e w4 ⟨rfl, hb4⟩; have HB4 := hid hb4; have hbx := bel_step HBd3.out hb4; have c0 := keeps hbx c0; have c2 := keeps hbx c2; clear hb4 hbx))
  go_wp2
  refine bodyPost_ret (v := .tuple #[.agg #[.bool false, .string mQ], .agg #[.bool false, .string mR], .int .i64 0]) ?_ rfl ⟨rfl, ?_⟩
  · simp [results, Tryz.results144, go_sem, z0, z1, y0, y1]
  · exact (((HB5.out.setCell (by show w.heap.size ≤ w.heap.size + 1 + 1; omega) _).setCell (by show w.heap.size ≤ w.heap.size + 1 + 1; omega) _).setCell (by show w.heap.size ≤ w.heap.size + 1 + 1 + 1; omega) _).setCell (by show w.heap.size ≤ w.heap.size + 1 + 1 + 1; omega) _
end Go.Proofs.YtieahckbbohfgaaGreatDoor
