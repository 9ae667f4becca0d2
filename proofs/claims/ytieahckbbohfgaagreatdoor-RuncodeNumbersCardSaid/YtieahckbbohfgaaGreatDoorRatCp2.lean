/-
  rational.Compare at numbers of one digit.
  The numbers are less than 2^32, and so are the products that are made.
-/
import Derived.Test.YtieahckbbohfgaaGreatDoorRatCmp
namespace Go.Proofs.YtieahckbbohfgaaGreatDoor
open Go.RowKit Go.Deep
set_option linter.unusedVariables false

theorem low_lt {n d : Nat} (hn : n < 4294967296) (hd : d < 4294967296) : lowN n d < 4294967296 ∧ lowD n d < 4294967296 := by
  unfold lowN lowD
  by_cases h : n = 0 ∨ d = 0
  · rw [if_pos h, if_pos h]; decide
  · rw [if_neg h, if_neg h]
    exact ⟨Nat.lt_of_le_of_lt (Nat.div_le_self _ _) hn, Nat.lt_of_le_of_lt (Nat.div_le_self _ _) hd⟩
theorem store4 {w : World} {b : Nat} {x y z u p q r s : Value} {T : TypeId} {fz : Nat × Nat} (h : w.heap[b]? = some (.cells #[p, q, r, s] T fz)) : ((((w.setCell ⟨b, 0, none⟩ x).setCell ⟨b, 1, none⟩ y).setCell ⟨b, 2, none⟩ z).setCell ⟨b, 3, none⟩ u).heap[b]? = some (.cells #[x, y, z, u] T fz) := by
  simp [World.setCell, Array.getElem?_modify, h]
theorem heap_far4 {w : World} {b k : Nat} {x y z u : Value} (hne : k ≠ b) : ((((w.setCell ⟨b, 0, none⟩ x).setCell ⟨b, 1, none⟩ y).setCell ⟨b, 2, none⟩ z).setCell ⟨b, 3, none⟩ u).heap[k]? = w.heap[k]? :=
  (Below.heap_setCell _ _ _ k hne).trans ((Below.heap_setCell _ _ _ k hne).trans ((Below.heap_setCell _ _ _ k hne).trans (Below.heap_setCell _ _ _ k hne)))
set_option maxRecDepth 100000 in
set_option maxHeartbeats 4000000 in
theorem rcompare_any (a b c d : Nat) (w : World) (ha : a < 4294967296) (hb : b < 4294967296) (hc : c < 4294967296) (hd : d < 4294967296) :
    Calls Tryz.prog 58 #[RV a b, RV c d] w fun e w' => e = .returned (.int .i64 (cmpI ((lowN a b * lowD c d : Nat) : Int) ((lowN c d * lowD a b : Nat) : Int))) ∧ Below w.heap.size w w' := by
  have HC1 := hid (fun X => canonical_any a b X ha hb)
  have HC2 := hid (fun X => canonical_any c d X hc hd)
  obtain ⟨l1, l2⟩ := low_lt ha hb
  obtain ⟨l3, l4⟩ := low_lt hc hd
  unfold RV at *
  generalize lowN a b = p at *
  generalize lowD a b = q at *
  generalize lowN c d = r at *
  generalize lowD c d = s at *
  have HM1 := hid (fun X => mulN_any p s X l1 l4)
  have HM2 := hid (fun X => mulN_any r q X l3 l2)
  have h1 : p * s ≤ 4294967295 * 4294967295 := Nat.mul_le_mul (by omega) (by omega)
  have h2 : r * q ≤ 4294967295 * 4294967295 := Nat.mul_le_mul (by omega) (by omega)
  have HCm := hid (fun X => compare_nat (p * s) (r * q) X (by omega) (by omega))
  generalize cmpI ((p * s : Nat) : Int) ((r * q : Nat) : Int) = C at *
  clear ha hb hc hd l1 l2 l3 l4 h1 h2
  generalize nmg (p * s) = m1 at *
  generalize nmg (r * q) = m2 at *
  generalize nmg p = mP at *
  generalize nmg q = mQ at *
  generalize nmg r = mR at *
  generalize nmg s = mS at *
  generalize nmg a = mA at *
  generalize nmg b = mB at *
  generalize nmg c = mC at *
  generalize nmg d = mD at *
  go_enter Tryz.func58, Tryz.ntmps58
  go_upto_region 1 with fail
  obtain ⟨w0, hw0⟩ : ∃ w0, (w.alloc (.cells #[.bool false, .string mA, .bool false, .string mB] 58)).alloc (.cells #[.bool false, .string mC, .bool false, .string mD] 58) = w0 := ⟨_, rfl⟩
  have hk1 : w0.heap[w.heap.size]? = some (.cells #[.bool false, .string mA, .bool false, .string mB] 58 (0, 0)) := by
    rw [← hw0]
    exact (Below.heap_alloc _ _ _ (by simp)).trans (heap_alloc_new w _)
  have hk2 : w0.heap[w.heap.size + 1]? = some (.cells #[.bool false, .string mC, .bool false, .string mD] 58 (0, 0)) := by
    have := heap_alloc_new (w.alloc (.cells #[.bool false, .string mA, .bool false, .string mB] 58)) (.cells #[.bool false, .string mC, .bool false, .string mD] 58)
    rw [World.size_alloc, hw0] at this
    exact this
  obtain ⟨hb0, _, _⟩ := boxed2R hw0
  rw [hw0]
  have HB0 := hid hb0
  have HK1 := hid hk1
  have HK2 := hid hk2
  obtain ⟨⟨a0, a1, a2, a3⟩, _⟩ := four_of hk1
  obtain ⟨⟨b0, b1, b2, b3⟩, _⟩ := four_of hk2
  clear hw0 hb0 hk1 hk2
  have hbd : Below w0.heap.size w0 w0.drew := below_drewN (Below.refl _ _) 1
  have HBd := hid hbd
  clear hbd
  go_upto_region 1 with fail
  go_cut [] (fun wx => Below w.heap.size w wx ∧ wx.heap[w.heap.size]? = some (.cells #[.bool false, .string mP, .bool false, .string mQ] 58 (0, 0)) ∧ wx.heap[w.heap.size + 1]? = some (.cells #[.bool false, .string mR, .bool false, .string mS] 58 (0, 0)))
  case first =>
    go_region_with (first
      | (have _g := HB1.out; clear _g; go_at_call 86; refine (HC2.out _).mono ?_; rintro e w2 ⟨rfl, hb2⟩; have hb2 := bel_step HB1.out hb2; have HB2 := hid hb2; have hk1 := (hb2.block _ (Array.getElem?_eq_some_iff.1 HK1.out).1).trans HK1.out; have hk2 := (hb2.block _ (Array.getElem?_eq_some_iff.1 HK2.out).1).trans HK2.out; have HK12 := hid hk1; have HK22 := hid hk2; obtain ⟨⟨a0, a1, a2, a3⟩, f0, f1, f2, f3⟩ := four_of hk1; obtain ⟨⟨b0, b1, b2, b3⟩, g0, g1, g2, g3⟩ := four_of hk2; clear hk1 hk2 hb2)
      | (go_at_call 86; refine (HC1.out _).mono ?_; rintro e w1 ⟨rfl, hb1⟩; have hb1 := bel_step HBd.out hb1; have HB1 := hid hb1; have b0 := keeps hb1 b0; have b1 := keeps hb1 b1; have b2 := keeps hb1 b2; have b3 := keeps hb1 b3; have a0 := keeps hb1 a0; have a1 := keeps hb1 a1; have a2 := keeps hb1 a2; have a3 := keeps hb1 a3; clear hb1))
    all_goals go_wp2_with fail
    all_goals go_meet
    all_goals
      refine ⟨?_, ?_, ?_⟩
      · exact bel_set4 (bel_set4 (bel_step HB0.out HB2.out) (Nat.le_refl _) _ _ _ _) (by omega) _ _ _ _
      · exact (heap_far4 (by omega)).trans (store4 HK12.out)
      · exact store4 ((heap_far4 (by omega)).trans HK22.out)
  case rest =>
    obtain ⟨hb3, hk1, hk2⟩ := hcut
    have HB3 := hid hb3
    obtain ⟨⟨a0, a1, a2, a3⟩, _⟩ := four_of hk1
    obtain ⟨⟨b0, b1, b2, b3⟩, _⟩ := four_of hk2
    clear hb3 hk1 hk2
    have hbd : Below wc.heap.size wc wc.drew := below_drewN (Below.refl _ _) 1
    have HBd3 := hid hbd
    clear hbd
    go_upto_region 2 with fail
    go_region_held3 (fun w' => (w'.cell? ⟨w.heap.size, 0, none⟩ = some (.bool false) ∧ w'.cell? ⟨w.heap.size, 1, none⟩ = some (.string mP) ∧ w'.cell? ⟨w.heap.size, 2, none⟩ = some (.bool false) ∧ w'.cell? ⟨w.heap.size, 3, none⟩ = some (.string mQ)) ∧ (w'.cell? ⟨w.heap.size + 1, 0, none⟩ = some (.bool false) ∧ w'.cell? ⟨w.heap.size + 1, 1, none⟩ = some (.string mR) ∧ w'.cell? ⟨w.heap.size + 1, 2, none⟩ = some (.bool false) ∧ w'.cell? ⟨w.heap.size + 1, 3, none⟩ = some (.string mS)))
      (first | exact ⟨⟨a0, a1, a2, a3⟩, b0, b1, b2, b3⟩ | go_keep)
      (first
        | (have _g := HB5.out; clear _g; go_at_call 87; refine (HCm.out _).mono ?_; rintro e w6 ⟨rfl, hb6⟩; have HB6 := hid (bel_step HB3.out (bel_step HB5.out hb6)); have a0 := keeps hb6 a0; have a1 := keeps hb6 a1; have a2 := keeps hb6 a2; have a3 := keeps hb6 a3; have b0 := keeps hb6 b0; have b1 := keeps hb6 b1; have b2 := keeps hb6 b2; have b3 := keeps hb6 b3; clear hb6)
        | (have _g := HB4.out; clear _g; go_at_call 88; refine (HM2.out _).mono ?_; rintro e w5 ⟨rfl, hb5⟩; have HB5 := hid (bel_step HB4.out hb5); have a0 := keeps hb5 a0; have a1 := keeps hb5 a1; have a2 := keeps hb5 a2; have a3 := keeps hb5 a3; have b0 := keeps hb5 b0; have b1 := keeps hb5 b1; have b2 := keeps hb5 b2; have b3 := keeps hb5 b3; clear hb5)
        | (go_at_call 88; refine (HM1.out _).mono ?_; rintro e w4 ⟨rfl, hb4⟩; have hb4 := bel_step HBd3.out hb4; have HB4 := hid hb4; have a0 := keeps hb4 a0; have a1 := keeps hb4 a1; have a2 := keeps hb4 a2; have a3 := keeps hb4 a3; have b0 := keeps hb4 b0; have b1 := keeps hb4 b1; have b2 := keeps hb4 b2; have b3 := keeps hb4 b3; clear hb4))
    all_goals
      go_wp2
      go_ret
      exact ⟨rfl, HB6.out⟩
end Go.Proofs.YtieahckbbohfgaaGreatDoor
