/-
  rational.table: the four operations; groovelaw42.ratio, runcode.one.
  The numbers are less than 2^32.
-/
import Derived.Test.YtieahckbbohfgaaGreatDoorRatOps
import Derived.Laws.EntriesVeiled
namespace Go.Proofs.YtieahckbbohfgaaGreatDoor
open Go.RowKit Go.Deep
set_option linter.unusedVariables false

theorem box4R {w w0 : World} {a b c d : Value} (h : w.alloc (.cells #[a, b, c, d] 58) = w0) : Below w.heap.size w w0 ∧ w0.cell? ⟨w.heap.size, 0, none⟩ = some a ∧ w0.cell? ⟨w.heap.size, 1, none⟩ = some b ∧ w0.cell? ⟨w.heap.size, 2, none⟩ = some c ∧ w0.cell? ⟨w.heap.size, 3, none⟩ = some d := by
  subst h
  exact ⟨bel_alloc _ _, by simp, by simp, by simp, by simp⟩
theorem four_of {w : World} {b : Nat} {p q r s : Value} {T : TypeId} (h : w.heap[b]? = some (.cells #[p, q, r, s] T (0, 0))) : (w.cell? ⟨b, 0, none⟩ = some p ∧ w.cell? ⟨b, 1, none⟩ = some q ∧ w.cell? ⟨b, 2, none⟩ = some r ∧ w.cell? ⟨b, 3, none⟩ = some s) ∧ w.frozen? ⟨b, 0, none⟩ = false ∧ w.frozen? ⟨b, 1, none⟩ = false ∧ w.frozen? ⟨b, 2, none⟩ = false ∧ w.frozen? ⟨b, 3, none⟩ = false := by
  refine ⟨⟨?_, ?_, ?_, ?_⟩, ?_, ?_, ?_, ?_⟩
  · rw [Lib.cell_of_heap h]; rfl
  · rw [Lib.cell_of_heap h]; rfl
  · rw [Lib.cell_of_heap h]; rfl
  · rw [Lib.cell_of_heap h]; rfl
  all_goals exact Lib.frozen_of_heap h _
def opsV : Value := .agg #[.func (.func 145) #[] #[], .func (.func 147) #[] #[], .func (.func 148) #[] #[], .func (.func 149) #[] #[]]
set_option maxRecDepth 100000 in
set_option maxHeartbeats 4000000 in
theorem table_any (w : World) :
    Calls Tryz.prog 113 #[] w fun e w' => e = .returned opsV ∧ Below w.heap.size w w' := by
  go_enter Tryz.func113, Tryz.ntmps113
  go_upto_region 2 with fail
  obtain ⟨w0, hw0⟩ : ∃ w0, (w.alloc (.cells #[.nilFunc, .nilFunc, .nilFunc, .nilFunc] 158)).alloc (.cells #[.nilFunc, .nilFunc, .nilFunc, .nilFunc] 158) = w0 := ⟨_, rfl⟩
  have hb0 : Below w.heap.size w w0 := by rw [← hw0]; exact (bel_alloc _ _).alloc (by simp) _
  have h1 : w0.heap[w.heap.size]? = some (.cells #[.nilFunc, .nilFunc, .nilFunc, .nilFunc] 158 (0, 0)) := by
    rw [← hw0]
    exact (Below.heap_alloc _ _ _ (by simp)).trans (heap_alloc_new w _)
  have h2 : w0.heap[w.heap.size + 1]? = some (.cells #[.nilFunc, .nilFunc, .nilFunc, .nilFunc] 158 (0, 0)) := by
    have := heap_alloc_new (w.alloc (.cells #[.nilFunc, .nilFunc, .nilFunc, .nilFunc] 158)) (.cells #[.nilFunc, .nilFunc, .nilFunc, .nilFunc] 158)
    rw [World.size_alloc, hw0] at this
    exact this
  rw [hw0]
  have HB0 := hid hb0
  obtain ⟨⟨a0, a1, a2, a3⟩, f0, f1, f2, f3⟩ := four_of h1
  obtain ⟨⟨b0, b1, b2, b3⟩, g0, g1, g2, g3⟩ := four_of h2
  clear hw0 hb0 h1 h2
  go_wp2
  refine bodyPost_ret (v := opsV) ?_ rfl ⟨rfl, ?_⟩
  · unfold opsV
    simp [results, Tryz.results113, go_sem, a0, a1, a2, a3]
  · refine bel_set4 ?_ (Nat.le_refl _) _ _ _ _
    exact bel_set4 HB0.out (by omega) _ _ _ _
set_option maxRecDepth 100000 in
set_option maxHeartbeats 4000000 in
theorem lawratio_any (n d : Nat) (w : World) (hn : n < 4294967296) (hd : d < 4294967296) (d0 : d ≠ 0) :
    Calls Tryz.prog 30 #[.int .i64 (n : Int), .int .i64 (d : Int)] w fun e w' => e = .returned (RV (lowN n d) (lowD n d)) ∧ Below w.heap.size w w' := by
  have HN := hid (fun X => ratio_any n d X hn hd d0)
  unfold RV at *
  generalize nmg (lowN n d) = mP at *
  generalize nmg (lowD n d) = mQ at *
  go_enter Tryz.func30, Tryz.ntmps30
  go_upto_region 1 with fail
  obtain ⟨w0, hw0⟩ : ∃ w0, w.alloc (.cells #[.bool false, .string ⟨#[]⟩, .bool false, .string ⟨#[]⟩] 58) = w0 := ⟨_, rfl⟩
  obtain ⟨hb0, hz⟩ := zero_new _ _ hw0
  rw [hw0]
  have HB0 := hid hb0
  have HZ0 := hid hz
  clear hw0 hb0 hz
  go_upto_region 2 with (go_at_call 62; refine (HN.out _).mono ?_; rintro e w1 ⟨rfl, hb1⟩; have HB1 := hid (bel_step HB0.out hb1); have HZ1 := hid (HZ0.out.below hb1); clear hb1)
  obtain ⟨w2, hw2⟩ : ∃ w2, w1.alloc (.cells #[.bool false, .string mP, .bool false, .string mQ] 58) = w2 := ⟨_, rfl⟩
  obtain ⟨hb2, p0, p1, p2, p3⟩ := box4R hw2
  rw [hw2]
  have HB2 := hid (bel_step HB1.out hb2)
  obtain ⟨⟨z0, z1, z2, z3⟩, f0, f1, f2, f3⟩ := (HZ1.out.below hb2).c
  clear hw2 hb2
  go_wp2
  refine bodyPost_ret (v := .agg #[.bool false, .string mP, .bool false, .string mQ]) ?_ rfl ⟨rfl, ?_⟩
  · simp [results, Tryz.results30, go_sem, z0, z1, z2, z3]
  · exact bel_set4 HB2.out (Nat.le_refl _) _ _ _ _
set_option maxRecDepth 100000 in
set_option maxHeartbeats 4000000 in
theorem rone_any (w : World) :
    Calls Tryz.prog 54 #[] w fun e w' => e = .returned (RV 1 1) ∧ Below w.heap.size w w' := by
  have HO := hid (fun X => one_any 1 X (by decide))
  rw [show ((1 : Nat) : Int) = 1 from rfl] at HO
  have HR := hid (fun X => rof_any 1 X (by decide))
  unfold RV at *
  generalize nmg 1 = m1 at *
  go_enter Tryz.func54, Tryz.ntmps54
  go_upto_region 1 with fail
  obtain ⟨w0, hw0⟩ : ∃ w0, w.alloc (.cells #[.bool false, .string ⟨#[]⟩, .bool false, .string ⟨#[]⟩] 58) = w0 := ⟨_, rfl⟩
  obtain ⟨hb0, hz⟩ := zero_new _ _ hw0
  rw [hw0]
  have HB0 := hid hb0
  have HZ0 := hid hz
  clear hw0 hb0 hz
  go_wp2_with (first
    | (go_at_call 85; refine (HO.out _).mono ?_; rintro e w1 ⟨rfl, hb1⟩; have HB1 := hid hb1; clear hb1)
    | (go_at_call 82; refine (HR.out _).mono ?_; rintro e w2 ⟨rfl, hb2⟩; have hbx := bel_step HB1.out hb2; have HB2 := hid (bel_step HB0.out hbx); obtain ⟨⟨z0, z1, z2, z3⟩, f0, f1, f2, f3⟩ := (HZ0.out.below hbx).c; clear hb2 hbx))
  refine bodyPost_ret (v := .agg #[.bool false, .string m1, .bool false, .string m1]) ?_ rfl ⟨rfl, ?_⟩
  · simp [results, Tryz.results54, go_sem, z0, z1, z2, z3]
  · exact bel_set4 HB2.out (Nat.le_refl _) _ _ _ _
end Go.Proofs.YtieahckbbohfgaaGreatDoor
