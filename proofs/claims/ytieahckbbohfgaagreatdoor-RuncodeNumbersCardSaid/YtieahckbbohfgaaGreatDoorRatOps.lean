/-
  rational: Of, New, Ratio, the table of operations, the sum and the product at numbers of one digit.
  The numbers are less than 2^32, and so are the products that are made.
-/
import Derived.Test.YtieahckbbohfgaaGreatDoorRatLow
namespace Go.Proofs.YtieahckbbohfgaaGreatDoor
open Go.RowKit Go.Deep
set_option linter.unusedVariables false

/-- A fraction that is in its lowest form. -/
def Cop (n d : Nat) : Prop := lowN n d = n ∧ lowD n d = d
instance (n d : Nat) : Decidable (Cop n d) := by unfold Cop; exact inferInstance
theorem cop_one (n : Nat) : Cop n 1 := by
  unfold Cop lowN lowD
  by_cases h : n = 0
  · subst h; simp
  · rw [if_neg (by omega), if_neg (by omega)]; simp
theorem addN_any (a b : Nat) (w : World) (ha : a < 4294967296) (hb : b < 4294967296) :
    Calls Tryz.prog 146 #[.agg #[.bool false, .string (nmg a)], .agg #[.bool false, .string (nmg b)]] w fun e w' => e = .returned (.agg #[.bool false, .string (nmg (a + b))]) ∧ Below w.heap.size w w' := by
  have h1 := addI_any (a : Int) (b : Int) w (fits_small (by omega)) (fits_small (by omega))
  rw [← Int.natCast_add, (nat_int a).1, (nat_int a).2, (nat_int b).1, (nat_int b).2, (nat_int (a + b)).1, (nat_int (a + b)).2] at h1
  exact h1
theorem boxedO {w w0 : World} {a b : Value} (h : (w.alloc (.cells #[a, b] 56)).alloc (.cells #[.bool false, .string ⟨#[]⟩, .bool false, .string ⟨#[]⟩] 58) = w0) : Below w.heap.size w w0 ∧ (w0.cell? ⟨w.heap.size, 0, none⟩ = some a ∧ w0.cell? ⟨w.heap.size, 1, none⟩ = some b) ∧ zeroR w0 (w.heap.size + 1) := by
  subst h
  refine ⟨(bel_alloc _ _).alloc (by simp) _, ⟨by simp [go_sem], by simp [go_sem]⟩, ?_⟩
  have := heap_alloc_new (w.alloc (.cells #[a, b] 56)) (.cells #[.bool false, .string ⟨#[]⟩, .bool false, .string ⟨#[]⟩] 58)
  rw [World.size_alloc] at this
  exact this
theorem far4 {w : World} {b : Nat} {x y z u v : Value} {a : Addr} (h : w.cell? a = some v) (hne : b ≠ a.block) : ((((w.setCell ⟨b, 0, none⟩ x).setCell ⟨b, 1, none⟩ y).setCell ⟨b, 2, none⟩ z).setCell ⟨b, 3, none⟩ u).cell? a = some v := by
  rw [World.cell?_setCell_far _ _ _ _ hne, World.cell?_setCell_far _ _ _ _ hne, World.cell?_setCell_far _ _ _ _ hne, World.cell?_setCell_far _ _ _ _ hne]
  exact h
set_option maxRecDepth 100000 in
set_option maxHeartbeats 4000000 in
theorem rof_any (n : Nat) (w : World) (hn : n < 4294967296) :
    Calls Tryz.prog 82 #[.agg #[.bool false, .string (nmg n)]] w fun e w' => e = .returned (RV n 1) ∧ Below w.heap.size w w' := by
  have HL := hid (fun X => lowest_any n 1 X hn (by decide))
  rw [(cop_one n).1, (cop_one n).2] at HL
  have HO := hid (fun X => one_any 1 X (by decide))
  rw [show ((1 : Nat) : Int) = 1 from rfl] at HO
  unfold RV at *
  generalize nmg n = mN at *
  generalize nmg 1 = mD at *
  go_enter Tryz.func82, Tryz.ntmps82
  go_upto_region 1 with fail
  obtain ⟨w0, hw0⟩ : ∃ w0, (w.alloc (.cells #[.bool false, .string mN] 56)).alloc (.cells #[.bool false, .string ⟨#[]⟩, .bool false, .string ⟨#[]⟩] 58) = w0 := ⟨_, rfl⟩
  obtain ⟨hb0, ⟨c0, c1⟩, hz⟩ := boxedO hw0
  rw [hw0]
  have HB0 := hid hb0
  have HZ0 := hid hz
  clear hw0 hb0 hz
  have hbd : Below w0.heap.size w0 w0.drew := below_drewN (Below.refl _ _) 1
  have HBd := hid hbd
  clear hbd
  go_region_held3 (fun w' => w'.cell? ⟨w.heap.size, 0, none⟩ = some (.bool false) ∧ w'.cell? ⟨w.heap.size, 1, none⟩ = some (.string mN))
    (first | exact ⟨c0, c1⟩ | exact ⟨far4 c0 (by show w.heap.size + 1 ≠ w.heap.size; omega), far4 c1 (by show w.heap.size + 1 ≠ w.heap.size; omega)⟩ | go_keep)
    (first
      | (go_at_call 112; refine (HL.out _).mono ?_; rintro e w2 ⟨rfl, hb2⟩; have hbx := bel_step HB1.out hb2; have HB2 := hid (bel_step HB0.out hbx); obtain ⟨⟨z0, z1, z2, z3⟩, f0, f1, f2, f3⟩ := (HZ0.out.below hbx).c; have c0 := keeps hb2 c0; have c1 := keeps hb2 c1; clear hb2 hbx)
      | (go_at_call 85; refine (HO.out _).mono ?_; rintro e w1 ⟨rfl, hb1⟩; have hb1 := bel_step HBd.out hb1; have HB1 := hid hb1; have c0 := keeps hb1 c0; have c1 := keeps hb1 c1; clear hb1))
  all_goals
    go_wp2
    refine bodyPost_ret (v := .agg #[.bool false, .string mN, .bool false, .string mD]) ?_ rfl ⟨rfl, ?_⟩
    · simp [results, Tryz.results82, go_sem, z0, z1, z2, z3]
    · exact bel_set4 HB2.out (by omega) _ _ _ _
set_option maxRecDepth 100000 in
set_option maxHeartbeats 4000000 in
theorem new_any (n d : Nat) (w : World) (hn : n < 4294967296) (hd : d < 4294967296) (d0 : d ≠ 0) :
    Calls Tryz.prog 92 #[.agg #[.bool false, .string (nmg n)], .agg #[.bool false, .string (nmg d)]] w fun e w' => e = .returned (.tuple #[RV (lowN n d) (lowD n d), .int .i64 0]) ∧ Below w.heap.size w w' := by
  have HL := hid (fun X => lowest_any n d X hn hd)
  have HC := hid (fun X => cmpz_any d X (by omega))
  rw [if_neg d0] at HC
  unfold RV at *
  generalize nmg (lowN n d) = mP at *
  generalize nmg (lowD n d) = mQ at *
  generalize nmg n = mN at *
  generalize nmg d = mD at *
  go_enter Tryz.func92, Tryz.ntmps92
  go_upto_region 1 with fail
  obtain ⟨w0, hw0⟩ : ∃ w0, ((w.alloc (.cells #[.bool false, .string mN] 56)).alloc (.cells #[.bool false, .string mD] 56)).alloc (.cells #[.bool false, .string ⟨#[]⟩, .bool false, .string ⟨#[]⟩] 58) = w0 := ⟨_, rfl⟩
  obtain ⟨hb0, ⟨c0, c1, c2, c3⟩, hz⟩ := boxedL hw0
  rw [hw0]
  have HB0 := hid hb0
  have HZ0 := hid hz
  clear hw0 hb0 hz
  go_wp2_with (first
    | (go_at_call 87; refine (HC.out _).mono ?_; rintro e w1 ⟨rfl, hb1⟩; have HB1 := hid (bel_step HB0.out hb1); have HZ1 := hid (HZ0.out.below hb1); have c0 := keeps hb1 c0; have c1 := keeps hb1 c1; have c2 := keeps hb1 c2; have c3 := keeps hb1 c3; clear hb1)
    | (go_at_call 112; refine (HL.out _).mono ?_; rintro e w2 ⟨rfl, hb2⟩; have HB2 := hid (bel_step HB1.out hb2); obtain ⟨⟨z0, z1, z2, z3⟩, f0, f1, f2, f3⟩ := (HZ1.out.below hb2).c; clear hb2))
  refine bodyPost_ret (v := .tuple #[.agg #[.bool false, .string mP, .bool false, .string mQ], .int .i64 0]) ?_ rfl ⟨rfl, ?_⟩
  · simp [results, Tryz.results92, go_sem, z0, z1, z2, z3]
  · exact bel_set4 HB2.out (by omega) _ _ _ _
theorem zero_new (w w0 : World) (h : w.alloc (.cells #[.bool false, .string ⟨#[]⟩, .bool false, .string ⟨#[]⟩] 58) = w0) : Below w.heap.size w w0 ∧ zeroR w0 w.heap.size := by
  subst h
  exact ⟨bel_alloc _ _, heap_alloc_new w _⟩
set_option maxRecDepth 100000 in
set_option maxHeartbeats 4000000 in
theorem ratio_any (n d : Nat) (w : World) (hn : n < 4294967296) (hd : d < 4294967296) (d0 : d ≠ 0) :
    Calls Tryz.prog 62 #[.int .i64 (n : Int), .int .i64 (d : Int)] w fun e w' => e = .returned (.tuple #[RV (lowN n d) (lowD n d), .int .i64 0]) ∧ Below w.heap.size w w' := by
  have HN := hid (fun X => new_any n d X hn hd d0)
  have HOn := hid (fun X => one_any n X hn)
  have HOd := hid (fun X => one_any d X hd)
  unfold RV at *
  generalize nmg (lowN n d) = mP at *
  generalize nmg (lowD n d) = mQ at *
  generalize nmg n = mN at *
  generalize nmg d = mD at *
  go_enter Tryz.func62, Tryz.ntmps62
  go_upto_region 1 with fail
  obtain ⟨w0, hw0⟩ : ∃ w0, w.alloc (.cells #[.bool false, .string ⟨#[]⟩, .bool false, .string ⟨#[]⟩] 58) = w0 := ⟨_, rfl⟩
  obtain ⟨hb0, hz⟩ := zero_new _ _ hw0
  rw [hw0]
  have HB0 := hid hb0
  have HZ0 := hid hz
  clear hw0 hb0 hz
  go_wp2_with (first
    | (have _g := HB2.out; clear _g; go_at_call 92; refine (HN.out _).mono ?_; rintro e w3 ⟨rfl, hb3⟩; have hbx := bel_step HB2.out hb3; have HB3 := hid (bel_step HB0.out hbx); obtain ⟨⟨z0, z1, z2, z3⟩, f0, f1, f2, f3⟩ := (HZ0.out.below hbx).c; clear hb3 hbx)
    | (have _g := HB1.out; clear _g; go_at_call 85; refine (HOd.out _).mono ?_; rintro e w2 ⟨rfl, hb2⟩; have HB2 := hid (bel_step HB1.out hb2); clear hb2)
    | (go_at_call 85; refine (HOn.out _).mono ?_; rintro e w1 ⟨rfl, hb1⟩; have HB1 := hid hb1; clear hb1))
  refine bodyPost_ret (v := .tuple #[.agg #[.bool false, .string mP, .bool false, .string mQ], .int .i64 0]) ?_ rfl ⟨rfl, ?_⟩
  · simp [results, Tryz.results62, go_sem, z0, z1, z2, z3]
  · exact bel_set4 HB3.out (by omega) _ _ _ _
end Go.Proofs.YtieahckbbohfgaaGreatDoor
