/-
  rational: lowest, canonical at numbers of one digit that are not negative.
  The numbers are less than 2^32.
-/
import Derived.Test.YtieahckbbohfgaaGreatDoorRatGcd
namespace Go.Proofs.YtieahckbbohfgaaGreatDoor
open Go.RowKit Go.Deep
set_option linter.unusedVariables false

theorem nmg_zero : nmg 0 = ⟨#[]⟩ := by simp [nmg, bytesBE_zero]
/-- A rational number as a value. -/
def RV (n d : Nat) : Value := .agg #[.bool false, .string (nmg n), .bool false, .string (nmg d)]
theorem one_any (n : Nat) (w : World) (h : n < 4294967296) : Calls Tryz.prog 85 #[.int .i64 (n : Int)] w fun e w' => e = .returned (.agg #[.bool false, .string (nmg n)]) ∧ Below w.heap.size w w' := by
  have h1 := of_any (n : Int) w (by omega) (by omega)
  rw [(nat_int n).1, (nat_int n).2] at h1
  exact h1
theorem cmpz_any (n : Nat) (w : World) (h : n < 18446744073709551616) : Calls Tryz.prog 87 #[.agg #[.bool false, .string (nmg n)], .agg #[.bool false, .string ⟨#[]⟩]] w fun e w' => e = .returned (.int .i64 (if n = 0 then 0 else 1)) ∧ Below w.heap.size w w' := by
  have h1 := compareI_any (n : Int) ((0 : Nat) : Int) w (fits_small h) (fits_small (by decide))
  rw [(nat_int n).1, (nat_int n).2, (nat_int 0).1, (nat_int 0).2, nmg_zero] at h1
  have e : cmpI (n : Int) ((0 : Nat) : Int) = if n = 0 then 0 else 1 := by
    unfold cmpI
    by_cases h0 : n = 0
    · subst h0; rfl
    · rw [if_neg (by omega), if_neg (by omega), if_neg h0]
  rw [e] at h1
  exact h1
def zeroR (w : World) (b : Nat) : Prop := w.heap[b]? = some (.cells #[.bool false, .string ⟨#[]⟩, .bool false, .string ⟨#[]⟩] 58 (0, 0))
theorem zeroR.below {w w' : World} {b : Nat} (h : zeroR w b) (hb : Below w.heap.size w w') : zeroR w' b := (hb.block b (Array.getElem?_eq_some_iff.1 h).1).trans h
theorem zeroR.c {w : World} {b : Nat} (h : zeroR w b) : (w.cell? ⟨b, 0, none⟩ = some (.bool false) ∧ w.cell? ⟨b, 1, none⟩ = some (.string ⟨#[]⟩) ∧ w.cell? ⟨b, 2, none⟩ = some (.bool false) ∧ w.cell? ⟨b, 3, none⟩ = some (.string ⟨#[]⟩)) ∧ w.frozen? ⟨b, 0, none⟩ = false ∧ w.frozen? ⟨b, 1, none⟩ = false ∧ w.frozen? ⟨b, 2, none⟩ = false ∧ w.frozen? ⟨b, 3, none⟩ = false := by
  refine ⟨⟨?_, ?_, ?_, ?_⟩, ?_, ?_, ?_, ?_⟩
  · rw [Lib.cell_of_heap h]; rfl
  · rw [Lib.cell_of_heap h]; rfl
  · rw [Lib.cell_of_heap h]; rfl
  · rw [Lib.cell_of_heap h]; rfl
  all_goals exact Lib.frozen_of_heap h _
theorem boxedL {w w0 : World} {a b c d : Value} (h : ((w.alloc (.cells #[a, b] 56)).alloc (.cells #[c, d] 56)).alloc (.cells #[.bool false, .string ⟨#[]⟩, .bool false, .string ⟨#[]⟩] 58) = w0) : Below w.heap.size w w0 ∧ (w0.cell? ⟨w.heap.size, 0, none⟩ = some a ∧ w0.cell? ⟨w.heap.size, 1, none⟩ = some b ∧ w0.cell? ⟨w.heap.size + 1, 0, none⟩ = some c ∧ w0.cell? ⟨w.heap.size + 1, 1, none⟩ = some d) ∧ zeroR w0 (w.heap.size + 2) := by
  subst h
  refine ⟨((bel_alloc _ _).alloc (by simp) _).alloc (by simp; omega) _, ⟨by simp [go_sem], by simp [go_sem], by simp [go_sem], by simp [go_sem]⟩, ?_⟩
  have := heap_alloc_new ((w.alloc (.cells #[a, b] 56)).alloc (.cells #[c, d] 56)) (.cells #[.bool false, .string ⟨#[]⟩, .bool false, .string ⟨#[]⟩] 58)
  rw [World.size_alloc, World.size_alloc] at this
  exact this
theorem box2I {w w0 : World} {a b : Value} (h : w.alloc (.cells #[a, b] 56) = w0) : Below w.heap.size w w0 ∧ w0.cell? ⟨w.heap.size, 0, none⟩ = some a ∧ w0.cell? ⟨w.heap.size, 1, none⟩ = some b := by
  subst h
  exact ⟨bel_alloc _ _, by simp, by simp⟩
theorem boxedR {w w0 : World} {a b c d : Value} (h : (w.alloc (.cells #[a, b, c, d] 58)).alloc (.cells #[.bool false, .string ⟨#[]⟩, .bool false, .string ⟨#[]⟩] 58) = w0) : Below w.heap.size w w0 ∧ (w0.cell? ⟨w.heap.size, 0, none⟩ = some a ∧ w0.cell? ⟨w.heap.size, 1, none⟩ = some b ∧ w0.cell? ⟨w.heap.size, 2, none⟩ = some c ∧ w0.cell? ⟨w.heap.size, 3, none⟩ = some d) ∧ zeroR w0 (w.heap.size + 1) := by
  subst h
  refine ⟨(bel_alloc _ _).alloc (by simp) _, ⟨by simp [go_sem], by simp [go_sem], by simp [go_sem], by simp [go_sem]⟩, ?_⟩
  have := heap_alloc_new (w.alloc (.cells #[a, b, c, d] 58)) (.cells #[.bool false, .string ⟨#[]⟩, .bool false, .string ⟨#[]⟩] 58)
  rw [World.size_alloc] at this
  exact this
theorem box22 {w w0 : World} {a b c d : Value} (h : (w.alloc (.cells #[a, b] 56)).alloc (.cells #[c, d] 56) = w0) : Below w.heap.size w w0 ∧ w0.cell? ⟨w.heap.size, 0, none⟩ = some a ∧ w0.cell? ⟨w.heap.size, 1, none⟩ = some b := by
  subst h
  exact ⟨(bel_alloc _ _).alloc (by simp) _, by simp, by simp⟩
theorem bel_set4 {w0 w : World} {b : Nat} (h : Below w0.heap.size w0 w) (hb : w0.heap.size ≤ b) (x y z u : Value) : Below w0.heap.size w0 ((((w.setCell ⟨b, 0, none⟩ x).setCell ⟨b, 1, none⟩ y).setCell ⟨b, 2, none⟩ z).setCell ⟨b, 3, none⟩ u) :=
  (((h.setCell (p := ⟨b, 0, none⟩) hb _).setCell (p := ⟨b, 1, none⟩) hb _).setCell (p := ⟨b, 2, none⟩) hb _).setCell (p := ⟨b, 3, none⟩) hb _
set_option maxRecDepth 100000 in
set_option maxHeartbeats 4000000 in
/-- Nothing above, or nothing below. -/
theorem lowest_zero (n d : Nat) (w : World) (hn : n < 18446744073709551616) (hd : d < 18446744073709551616) (h : n = 0 ∨ d = 0) :
    Calls Tryz.prog 112 #[.agg #[.bool false, .string (nmg n)], .agg #[.bool false, .string (nmg d)]] w fun e w' => e = .returned (RV 0 1) ∧ Below w.heap.size w w' := by
  have HCn := hid (fun X => cmpz_any n X hn)
  have HCd := hid (fun X => cmpz_any d X hd)
  have HOne := hid (fun X => one_any 1 X (by decide))
  unfold RV
  rw [nmg_zero]
  rw [show ((1 : Nat) : Int) = 1 from rfl] at HOne
  have hm1 := hid (show nmg 1 = nmg 1 from rfl)
  by_cases d0 : d = 0
  · subst d0
    rw [if_pos rfl] at HCd
    generalize nmg n = mN at *
    generalize nmg 0 = mD at *
    generalize nmg 1 = m1 at *
    go_enter Tryz.func112, Tryz.ntmps112
    go_upto_region 1 with fail
    obtain ⟨w0, hw0⟩ : ∃ w0, ((w.alloc (.cells #[.bool false, .string mN] 56)).alloc (.cells #[.bool false, .string mD] 56)).alloc (.cells #[.bool false, .string ⟨#[]⟩, .bool false, .string ⟨#[]⟩] 58) = w0 := ⟨_, rfl⟩
    obtain ⟨hb0, ⟨c0, c1, c2, c3⟩, hz⟩ := boxedL hw0
    rw [hw0]
    have HB0 := hid hb0
    have HZ0 := hid hz
    clear hw0 hb0 hz
    go_wp2_with (first
      | (go_at_call 87; refine (HCd.out _).mono ?_; rintro e w1 ⟨rfl, hb1⟩; have HB1 := hid (bel_step HB0.out hb1); have HZ1 := hid (HZ0.out.below hb1); clear hb1)
      | (go_at_call 85; refine (HOne.out _).mono ?_; rintro e w2 ⟨rfl, hb2⟩; have HB2 := hid (bel_step HB1.out hb2); obtain ⟨⟨z0, z1, z2, z3⟩, f0, f1, f2, f3⟩ := (HZ1.out.below hb2).c; clear hb2))
    refine bodyPost_ret (v := .agg #[.bool false, .string ⟨#[]⟩, .bool false, .string m1]) ?_ rfl ⟨rfl, ?_⟩
    · simp [results, Tryz.results112, go_sem, z0, z1, z2, z3]
    · exact bel_set4 HB2.out (by omega) _ _ _ _
  · have n0 : n = 0 := by omega
    subst n0
    rw [if_neg d0] at HCd
    rw [if_pos rfl] at HCn
    generalize nmg 0 = mN at *
    generalize nmg d = mD at *
    generalize nmg 1 = m1 at *
    go_enter Tryz.func112, Tryz.ntmps112
    go_upto_region 1 with fail
    obtain ⟨w0, hw0⟩ : ∃ w0, ((w.alloc (.cells #[.bool false, .string mN] 56)).alloc (.cells #[.bool false, .string mD] 56)).alloc (.cells #[.bool false, .string ⟨#[]⟩, .bool false, .string ⟨#[]⟩] 58) = w0 := ⟨_, rfl⟩
    obtain ⟨hb0, ⟨c0, c1, c2, c3⟩, hz⟩ := boxedL hw0
    rw [hw0]
    have HB0 := hid hb0
    have HZ0 := hid hz
    clear hw0 hb0 hz
    go_upto_region 2 with (go_at_call 87; refine (HCd.out _).mono ?_; rintro e w1 ⟨rfl, hb1⟩; have HB1 := hid (bel_step HB0.out hb1); have HZ1 := hid (HZ0.out.below hb1); have c0 := keeps hb1 c0; have c1 := keeps hb1 c1; clear hb1)
    go_wp2_with (first
      | (go_at_call 87; refine (HCn.out _).mono ?_; rintro e w2 ⟨rfl, hb2⟩; have HB2 := hid (bel_step HB1.out hb2); have HZ2 := hid (HZ1.out.below hb2); clear hb2)
      | (go_at_call 85; refine (HOne.out _).mono ?_; rintro e w3 ⟨rfl, hb3⟩; have HB3 := hid (bel_step HB2.out hb3); obtain ⟨⟨z0, z1, z2, z3⟩, f0, f1, f2, f3⟩ := (HZ2.out.below hb3).c; clear hb3))
    refine bodyPost_ret (v := .agg #[.bool false, .string ⟨#[]⟩, .bool false, .string m1]) ?_ rfl ⟨rfl, ?_⟩
    · simp [results, Tryz.results112, go_sem, z0, z1, z2, z3]
    · exact bel_set4 HB3.out (by omega) _ _ _ _
set_option maxRecDepth 100000 in
set_option maxHeartbeats 4000000 in
theorem lowest_pos (n d : Nat) (w : World) (hn : n < 4294967296) (hd : d < 4294967296) (n0 : n ≠ 0) (d0 : d ≠ 0) :
    Calls Tryz.prog 112 #[.agg #[.bool false, .string (nmg n)], .agg #[.bool false, .string (nmg d)]] w fun e w' => e = .returned (RV (n / Nat.gcd n d) (d / Nat.gcd n d)) ∧ Below w.heap.size w w' := by
  have HCn := hid (fun X => cmpz_any n X (by omega))
  have HCd := hid (fun X => cmpz_any d X (by omega))
  rw [if_neg n0] at HCn
  rw [if_neg d0] at HCd
  have HG := hid (fun X => gcdN_any n d X hn hd)
  have g0 : Nat.gcd n d ≠ 0 := fun h => n0 (Nat.gcd_eq_zero_iff.1 h).1
  have hgl : Nat.gcd n d < 4294967296 := Nat.lt_of_le_of_lt (Nat.gcd_le_left d (by omega)) hn
  have HDn := hid (fun X => divN_any n (Nat.gcd n d) X hn hgl g0)
  have HDd := hid (fun X => divN_any d (Nat.gcd n d) X hd hgl g0)
  unfold RV
  generalize nmg (n % Nat.gcd n d) = mx at *
  generalize nmg (d % Nat.gcd n d) = my at *
  generalize nmg (n / Nat.gcd n d) = mP at *
  generalize nmg (d / Nat.gcd n d) = mQ at *
  generalize nmg (Nat.gcd n d) = mG at *
  generalize nmg n = mN at *
  generalize nmg d = mD at *
  go_enter Tryz.func112, Tryz.ntmps112
  go_upto_region 1 with fail
  obtain ⟨w0, hw0⟩ : ∃ w0, ((w.alloc (.cells #[.bool false, .string mN] 56)).alloc (.cells #[.bool false, .string mD] 56)).alloc (.cells #[.bool false, .string ⟨#[]⟩, .bool false, .string ⟨#[]⟩] 58) = w0 := ⟨_, rfl⟩
  obtain ⟨hb0, ⟨c0, c1, c2, c3⟩, hz⟩ := boxedL hw0
  rw [hw0]
  have HB0 := hid hb0
  have HZ0 := hid hz
  clear hw0 hb0 hz
  go_upto_region 2 with (go_at_call 87; refine (HCd.out _).mono ?_; rintro e w1 ⟨rfl, hb1⟩; have HB1 := hid (bel_step HB0.out hb1); have HZ1 := hid (HZ0.out.below hb1); have c0 := keeps hb1 c0; have c1 := keeps hb1 c1; have c2 := keeps hb1 c2; have c3 := keeps hb1 c3; clear hb1)
  go_upto_region 6 with (go_at_call 87; refine (HCn.out _).mono ?_; rintro e w2 ⟨rfl, hb2⟩; have HB2 := hid (bel_step HB1.out hb2); have HZ2 := hid (HZ1.out.below hb2); have c0 := keeps hb2 c0; have c1 := keeps hb2 c1; have c2 := keeps hb2 c2; have c3 := keeps hb2 c3; clear hb2)
  go_upto_region 7 with (go_at_call 143; refine (HG.out _).mono ?_; rintro e w3 ⟨rfl, hb3⟩; have HB3 := hid (bel_step HB2.out hb3); have HZ3 := hid (HZ2.out.below hb3); have c0 := keeps hb3 c0; have c1 := keeps hb3 c1; have c2 := keeps hb3 c2; have c3 := keeps hb3 c3; clear hb3)
  obtain ⟨w4, hw4⟩ : ∃ w4, w3.alloc (.cells #[.bool false, .string mG] 56) = w4 := ⟨_, rfl⟩
  obtain ⟨hb4, k0, k1⟩ := box2I hw4
  rw [hw4]
  have HB4 := hid (bel_step HB3.out hb4)
  have HZ4 := hid (HZ3.out.below hb4)
  have c0 := keeps hb4 c0
  have c1 := keeps hb4 c1
  have c2 := keeps hb4 c2
  have c3 := keeps hb4 c3
  generalize w3.heap.size = bg at *
  clear hw4 hb4
  go_upto_region 8 with (go_at_call 144; refine (HDn.out _).mono ?_; rintro e w5 ⟨rfl, hb5⟩; have HB5 := hid (bel_step HB4.out hb5); have HZ5 := hid (HZ4.out.below hb5); have c2 := keeps hb5 c2; have c3 := keeps hb5 c3; have k0 := keeps hb5 k0; have k1 := keeps hb5 k1; clear hb5)
  obtain ⟨w6, hw6⟩ : ∃ w6, (w5.alloc (.cells #[.bool false, .string mP] 56)).alloc (.cells #[.bool false, .string mx] 56) = w6 := ⟨_, rfl⟩
  obtain ⟨hb6, p0, p1⟩ := box22 hw6
  rw [hw6]
  have HB6 := hid (bel_step HB5.out hb6)
  have HZ6 := hid (HZ5.out.below hb6)
  have c2 := keeps hb6 c2
  have c3 := keeps hb6 c3
  have k0 := keeps hb6 k0
  have k1 := keeps hb6 k1
  generalize w5.heap.size = bq at *
  clear hw6 hb6
  go_upto_region 9 with (go_at_call 144; refine (HDd.out _).mono ?_; rintro e w7 ⟨rfl, hb7⟩; have HB7 := hid (bel_step HB6.out hb7); have HZ7 := hid (HZ6.out.below hb7); have p0 := keeps hb7 p0; have p1 := keeps hb7 p1; clear hb7)
  obtain ⟨w8, hw8⟩ : ∃ w8, (w7.alloc (.cells #[.bool false, .string mQ] 56)).alloc (.cells #[.bool false, .string my] 56) = w8 := ⟨_, rfl⟩
  obtain ⟨hb8, q0, q1⟩ := box22 hw8
  rw [hw8]
  have HB8 := hid (bel_step HB7.out hb8)
  obtain ⟨⟨z0, z1, z2, z3⟩, f0, f1, f2, f3⟩ := (HZ7.out.below hb8).c
  have p0 := keeps hb8 p0
  have p1 := keeps hb8 p1
  generalize w7.heap.size = br at *
  clear hw8 hb8
  go_wp2
  refine bodyPost_ret (v := .agg #[.bool false, .string mP, .bool false, .string mQ]) ?_ rfl ⟨rfl, ?_⟩
  · simp [results, Tryz.results112, go_sem, z0, z1, z2, z3]
  · exact bel_set4 HB8.out (by omega) _ _ _ _
/-- The value of a fraction. -/
def lowN (n d : Nat) : Nat := if n = 0 ∨ d = 0 then 0 else n / Nat.gcd n d
def lowD (n d : Nat) : Nat := if n = 0 ∨ d = 0 then 1 else d / Nat.gcd n d
theorem lowest_any (n d : Nat) (w : World) (hn : n < 4294967296) (hd : d < 4294967296) :
    Calls Tryz.prog 112 #[.agg #[.bool false, .string (nmg n)], .agg #[.bool false, .string (nmg d)]] w fun e w' => e = .returned (RV (lowN n d) (lowD n d)) ∧ Below w.heap.size w w' := by
  unfold lowN lowD
  by_cases h : n = 0 ∨ d = 0
  · rw [if_pos h, if_pos h]
    exact lowest_zero n d w (by omega) (by omega) h
  · rw [if_neg h, if_neg h]
    exact lowest_pos n d w hn hd (by omega) (by omega)
set_option maxRecDepth 100000 in
set_option maxHeartbeats 4000000 in
theorem canonical_any (n d : Nat) (w : World) (hn : n < 4294967296) (hd : d < 4294967296) :
    Calls Tryz.prog 86 #[RV n d] w fun e w' => e = .returned (RV (lowN n d) (lowD n d)) ∧ Below w.heap.size w w' := by
  have HL := hid (fun X => lowest_any n d X hn hd)
  unfold RV at *
  generalize nmg (lowN n d) = mP at *
  generalize nmg (lowD n d) = mQ at *
  generalize nmg n = mN at *
  generalize nmg d = mD at *
  go_enter Tryz.func86, Tryz.ntmps86
  go_upto_region 1 with fail
  obtain ⟨w0, hw0⟩ : ∃ w0, (w.alloc (.cells #[.bool false, .string mN, .bool false, .string mD] 58)).alloc (.cells #[.bool false, .string ⟨#[]⟩, .bool false, .string ⟨#[]⟩] 58) = w0 := ⟨_, rfl⟩
  obtain ⟨hb0, ⟨c0, c1, c2, c3⟩, hz⟩ := boxedR hw0
  rw [hw0]
  have HB0 := hid hb0
  have HZ0 := hid hz
  clear hw0 hb0 hz
  go_wp2_with (go_at_call 112; refine (HL.out _).mono ?_; rintro e w1 ⟨rfl, hb1⟩; have HB1 := hid (bel_step HB0.out hb1); obtain ⟨⟨z0, z1, z2, z3⟩, f0, f1, f2, f3⟩ := (HZ0.out.below hb1).c; clear hb1)
  refine bodyPost_ret (v := .agg #[.bool false, .string mP, .bool false, .string mQ]) ?_ rfl ⟨rfl, ?_⟩
  · simp [results, Tryz.results86, go_sem, z0, z1, z2, z3]
  · exact bel_set4 HB1.out (by omega) _ _ _ _
end Go.Proofs.YtieahckbbohfgaaGreatDoor
