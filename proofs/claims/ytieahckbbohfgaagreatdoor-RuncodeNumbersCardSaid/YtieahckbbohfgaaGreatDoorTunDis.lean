/-
  runcode.distribution at a distribution of numbers of one digit: the numbers are canonical, positive, and their sum is 1.
  The numbers are those of the example.
-/
import Derived.Test.YtieahckbbohfgaaGreatDoorRatCp2
namespace Go.Proofs.YtieahckbbohfgaaGreatDoor
open Go.RowKit Go.Deep
set_option linter.unusedVariables false

abbrev Fr2 := Nat × Nat
def rcells (l : List Fr2) : List Value := l.flatMap fun p => [.bool false, .string (nmg p.1), .bool false, .string (nmg p.2)]
theorem rcells_len (l : List Fr2) : (rcells l).length = l.length * 4 := by
  induction l with
  | nil => rfl
  | cons x t ih => simp only [rcells, List.flatMap_cons, List.length_append] at *; rw [ih]; simp; omega
theorem rcells_get {l : List Fr2} {k : Nat} {x : Fr2} (h : l[k]? = some x) : (rcells l)[k * 4]? = some (.bool false) ∧ (rcells l)[k * 4 + 1]? = some (.string (nmg x.1)) ∧ (rcells l)[k * 4 + 2]? = some (.bool false) ∧ (rcells l)[k * 4 + 3]? = some (.string (nmg x.2)) := by
  induction l generalizing k with
  | nil => simp at h
  | cons y t ih =>
    have hc : rcells (y :: t) = [.bool false, .string (nmg y.1), .bool false, .string (nmg y.2)] ++ rcells t := by simp [rcells]
    rw [hc]
    cases k with
    | zero => simp at h; subst h; simp
    | succ k =>
      have h2 := ih (by simpa using h)
      rw [List.getElem?_append_right (by simp; omega), List.getElem?_append_right (by simp; omega), List.getElem?_append_right (by simp; omega), List.getElem?_append_right (by simp; omega)]
      simp only [List.length_cons, List.length_nil]
      rw [show (k + 1) * 4 - (0 + 1 + 1 + 1 + 1) = k * 4 by omega, show (k + 1) * 4 + 1 - (0 + 1 + 1 + 1 + 1) = k * 4 + 1 by omega, show (k + 1) * 4 + 2 - (0 + 1 + 1 + 1 + 1) = k * 4 + 2 by omega, show (k + 1) * 4 + 3 - (0 + 1 + 1 + 1 + 1) = k * 4 + 3 by omega]
      exact h2
theorem sl_rat {w : World} {r : Option Addr} {c n k : Nat} {l : List Fr2} {x : Fr2} (h : Sl 4 w (.slice r n c) l.length (rcells l)) (hk : l[k]? = some x) :
    ∃ b o, r = some ⟨b, o, none⟩ ∧ w.cell? ⟨b, o + k * 4, none⟩ = some (.bool false) ∧ w.cell? ⟨b, o + k * 4 + 1, none⟩ = some (.string (nmg x.1)) ∧ w.cell? ⟨b, o + k * 4 + 2, none⟩ = some (.bool false) ∧ w.cell? ⟨b, o + k * 4 + 3, none⟩ = some (.string (nmg x.2)) := by
  obtain ⟨h0, h1, h2, h3⟩ := rcells_get hk
  obtain ⟨b, o, hao, c0⟩ := h.cell h0
  subst hao
  obtain ⟨b1, o1, e1, c1⟩ := h.cell h1
  obtain ⟨b2, o2, e2, c2⟩ := h.cell h2
  obtain ⟨b3, o3, e3, c3⟩ := h.cell h3
  cases e1; cases e2; cases e3
  exact ⟨b, o, rfl, c0, by rw [Nat.add_assoc]; exact c1, by rw [Nat.add_assoc]; exact c2, by rw [Nat.add_assoc]; exact c3⟩
set_option maxRecDepth 100000 in
set_option maxHeartbeats 4000000 in
theorem distf_any (a b : Nat) (w : World) (ha : a < 4294967296) (hb : b < 4294967296) (h1 : Cop a b) :
    Calls Tryz.prog 80 #[RV a b] w fun e w' => e = .returned (.bool false) ∧ Below w.heap.size w w' := by
  have HC := hid (fun X => rcheck_any a b X ha hb h1)
  clear h1
  unfold RV at *
  generalize nmg a = mA at *
  generalize nmg b = mB at *
  go_enter Tryz.func80, Tryz.ntmps80
  go_upto_region 1 with fail
  obtain ⟨w0, hw0⟩ : ∃ w0, w.alloc (.cells #[.bool false, .string mA, .bool false, .string mB] 58) = w0 := ⟨_, rfl⟩
  obtain ⟨hb0, a0, a1, a2, a3⟩ := box4R hw0
  rw [hw0]
  have HB0 := hid hb0
  clear hw0 hb0
  go_wp2_with (go_at_call 81; refine (HC.out _).mono ?_; rintro e w1 ⟨rfl, hb1⟩; have HB1 := hid (bel_step HB0.out hb1); clear hb1)
  go_ret
  exact ⟨rfl, HB1.out⟩
set_option maxRecDepth 100000 in
set_option maxHeartbeats 4000000 in
theorem ixf_any (v : Value) (l : List Fr2) (w : World) (hl : Sl 4 w v l.length (rcells l)) (hn : l.length ≤ 1000) (hg : ∀ p ∈ l, p.1 < 4294967296 ∧ p.2 < 4294967296 ∧ Cop p.1 p.2) :
    Calls Tryz.prog 111 #[v, .func (.func 80) #[] #[]] w fun e w' => e = .returned (.int .i64 (-1)) ∧ Below w.heap.size w w' := by
  have HL := hid hl
  have HG := hid hg
  obtain ⟨ao, cap, rfl, -, h2, h3, -⟩ := hl
  clear hg
  generalize hN : l.length = N at *
  have HN := hid hN
  clear hN
  go_enter Tryz.func111, Tryz.ntmps111
  go_wp2_with fail
  go_loopw [8] (fun i wr => ∃ k : Nat, k ≤ N ∧ i = .int .i64 (k : Int) ∧ Hid (Below w.heap.size w wr)) (fun i _ => N - (intOf i).toNat)
  case atStart => exact ⟨0, Nat.zero_le _, rfl, hid (Below.refl _ _)⟩
  case round =>
    obtain ⟨k, hk, rfl, HB⟩ := hrel
    rename World => wk
    by_cases hkn : k < N
    · obtain ⟨x, hx⟩ := some_of_lt (show k < l.length by rw [HN.out]; exact hkn)
      obtain ⟨hx1, hx2, hx3⟩ := HG.out x (List.mem_of_getElem? hx)
      have hl2 := HL.out.below HB.out
      rw [← HN.out] at hl2
      obtain ⟨b, o, rfl, c0, c1, c2, c3⟩ := sl_rat hl2 hx
      have HF := hid (fun X => distf_any x.1 x.2 X hx1 hx2 hx3)
      unfold RV at HF
      clear hl2 hx hx3
      generalize nmg x.1 = mA at *
      generalize nmg x.2 = mB at *
      go_wp2_with (go_at_call 80; refine (HF.out _).mono ?_; rintro e w1 ⟨rfl, hb1⟩; have HB1 := hid (bel_step HB.out hb1); clear hb1)
      go_roundw
      case rel => exact ⟨k + 1, by omega, by go_num, HB1⟩
      case measure => simp [intOf]; omega
    · obtain rfl : k = N := by omega
      go_wp2
      go_ret
      exact ⟨rfl, HB.out⟩
theorem ctf_any (v : Value) (l : List Fr2) (w : World) (hl : Sl 4 w v l.length (rcells l)) (hn : l.length ≤ 1000) (hg : ∀ p ∈ l, p.1 < 4294967296 ∧ p.2 < 4294967296 ∧ Cop p.1 p.2) :
    Calls Tryz.prog 79 #[v, .func (.func 80) #[] #[]] w fun e w' => e = .returned (.bool false) ∧ Below w.heap.size w w' := by
  have HI := hid (ixf_any v l w hl hn hg)
  obtain ⟨ao, cap, rfl, -, -, -, -⟩ := hl
  go_enter Tryz.func79, Tryz.ntmps79
  go_wp2_with (go_at_call 111; refine HI.out.mono ?_; rintro e w1 ⟨rfl, hb1⟩)
  go_ret
  exact ⟨rfl, hb1⟩
/-- The probabilities of the example, and their sums. -/
def exP : List Fr2 := [(2, 3), (1, 3)]
def exS (k : Nat) : Fr2 := if k = 0 then (0, 1) else if k = 1 then (2, 3) else (1, 1)
theorem exP_good : ∀ p ∈ exP, p.1 < 4294967296 ∧ p.2 < 4294967296 ∧ Cop p.1 p.2 := by
  intro p hp
  simp only [exP, List.mem_cons, List.not_mem_nil, or_false] at hp
  rcases hp with rfl | rfl <;> decide +kernel
theorem exS_step (k : Nat) (h : k < 2) : ∃ x : Fr2, exP[k]? = some x ∧ x.1 < 4294967296 ∧ x.2 < 4294967296 ∧ Sml (exS k).1 (exS k).2 x.1 x.2 ∧ Cop (exS k).1 (exS k).2 ∧ Cop x.1 x.2 ∧ lowN ((exS k).1 * x.2 + x.1 * (exS k).2) ((exS k).2 * x.2) = (exS (k + 1)).1 ∧ lowD ((exS k).1 * x.2 + x.1 * (exS k).2) ((exS k).2 * x.2) = (exS (k + 1)).2 ∧ cmpI ((lowN x.1 x.2 * lowD 0 0 : Nat) : Int) ((lowN 0 0 * lowD x.1 x.2 : Nat) : Int) = 1 := by
  have : k = 0 ∨ k = 1 := by omega
  rcases this with rfl | rfl
  · exact ⟨(2, 3), rfl, by decide +kernel⟩
  · exact ⟨(1, 3), rfl, by decide +kernel⟩
set_option maxRecDepth 100000 in
set_option maxHeartbeats 4000000 in
theorem dist_ex (v : Value) (w : World) (hl : Sl 4 w v exP.length (rcells exP)) :
    Calls Tryz.prog 51 #[v] w fun e w' => e = .returned (.int .i64 0) ∧ Below w.heap.size w w' := by
  have HL := hid hl
  have HCt := hid (fun X h => ctf_any v exP X h (by decide) exP_good)
  have HOf := hid (fun X => rof_any 0 X (by decide))
  rw [nmg_zero] at HOf
  have HOne := hid (fun X => rone_any X)
  unfold RV at HOf HOne
  obtain ⟨ao, cap, rfl, -, h2, h3, -⟩ := hl
  rw [show exP.length = 2 from rfl] at *
  go_enter Tryz.func51, Tryz.ntmps51
  go_upto_region 4 with (first
    | (go_at_call 79; refine (HCt.out _ HL.out).mono ?_; rintro e w1 ⟨rfl, hb1⟩; have HB1 := hid hb1; clear hb1)
    | (go_at_call 82; refine (HOf.out _).mono ?_; rintro e w2 ⟨rfl, hb2⟩; have HB2 := hid (bel_step HB1.out hb2); clear hb2))
  obtain ⟨w3, hw3⟩ : ∃ w3, w2.alloc (.cells #[.bool false, .string (nmg 0), .bool false, .string (nmg 1)] 58) = w3 := ⟨_, rfl⟩
  have hk3 : w3.heap[w2.heap.size]? = some (.cells #[.bool false, .string (nmg 0), .bool false, .string (nmg 1)] 58 (0, 0)) := by rw [← hw3]; exact heap_alloc_new w2 _
  have hb3 : Below w2.heap.size w2 w3 := by rw [← hw3]; exact bel_alloc _ _
  rw [hw3]
  have HB3 := hid (bel_step HB2.out hb3)
  have HS2 := hid HB2.out.size
  have HK3 := hid (show w3.heap[w2.heap.size]? = some (.cells #[.bool false, .string (nmg (exS 0).1), .bool false, .string (nmg (exS 0).2)] 58 (0, 0)) from hk3)
  generalize w2.heap.size = bs at *
  clear hw3 hb3 hk3
  go_wp2_with fail
  go_loopw [12] (fun i wr => ∃ k : Nat, k ≤ 2 ∧ i = .int .i64 (k : Int) ∧ Hid (Below w.heap.size w wr) ∧ Hid (wr.heap[bs]? = some (.cells #[.bool false, .string (nmg (exS k).1), .bool false, .string (nmg (exS k).2)] 58 (0, 0)))) (fun i _ => 2 - (intOf i).toNat)
  case atStart => exact ⟨0, by decide, rfl, HB3, HK3⟩
  case round =>
    obtain ⟨k, hk, rfl, HB, HK⟩ := hrel
    rename World => wk
    by_cases hkn : k < 2
    · obtain ⟨x, hx, x1, x2, hSm, hC1, hC2, hs1, hs2, hcm⟩ := exS_step k hkn
      have hl2 := HL.out.below HB.out
      obtain ⟨b, o, rfl, c0, c1, c2, c3⟩ := sl_rat (l := exP) hl2 hx
      have HCm := hid (fun X => rcompare_any x.1 x.2 0 0 X x1 x2 (by decide) (by decide))
      rw [hcm] at HCm
      have HAd := hid (fun X => radd_any (exS k).1 (exS k).2 x.1 x.2 X hSm hC1 hC2)
      rw [hs1, hs2] at HAd
      unfold RV at HCm HAd
      rw [nmg_zero] at HCm
      clear hl2 hx hSm hC1 hC2 hs1 hs2 hcm x1 x2
      generalize nmg x.1 = mA at *
      generalize nmg x.2 = mB at *
      generalize hp1 : nmg (exS (k + 1)).1 = p1 at *
      generalize hp2 : nmg (exS (k + 1)).2 = p2 at *
      have HP := hid (And.intro hp1 hp2)
      clear hp1 hp2
      generalize nmg (exS k).1 = s1 at *
      generalize nmg (exS k).2 = s2 at *
      go_upto_region 7 with fail
      obtain ⟨w4, hw4⟩ : ∃ w4, wk.alloc (.cells #[.bool false, .string mA, .bool false, .string mB] 58) = w4 := ⟨_, rfl⟩
      obtain ⟨hb4, d0, d1, d2, d3⟩ := box4R hw4
      rw [hw4]
      have HB4 := hid (bel_step HB.out hb4)
      have HK4 := hid ((hb4.block _ (Array.getElem?_eq_some_iff.1 HK.out).1).trans HK.out)
      clear hw4 hb4 c0 c1 c2 c3
      generalize wk.heap.size = bx at *
      go_upto_region 9 with (go_at_call 58; refine (HCm.out _).mono ?_; rintro e w5 ⟨rfl, hb5⟩; have HB5 := hid (bel_step HB4.out hb5); have hk5 := (hb5.block _ (Array.getElem?_eq_some_iff.1 HK4.out).1).trans HK4.out; have HK5 := hid hk5; obtain ⟨⟨e0, e1, e2, e3⟩, _⟩ := four_of hk5; clear hk5; have d0 := keeps hb5 d0; have d1 := keeps hb5 d1; have d2 := keeps hb5 d2; have d3 := keeps hb5 d3; clear hb5)
      go_wp2_with (go_at_call 83; refine (HAd.out _).mono ?_; rintro e w6 ⟨rfl, hb6⟩; have HB6 := hid (bel_step HB5.out hb6); have hk6 := (hb6.block _ (Array.getElem?_eq_some_iff.1 HK5.out).1).trans HK5.out; have HK6 := hid hk6; obtain ⟨⟨e0, e1, e2, e3⟩, g0, g1, g2, g3⟩ := four_of hk6; clear hk6 hb6)
      go_roundw
      case rel =>
        refine ⟨k + 1, by omega, by go_num, hid (bel_set4 HB6.out HS2.out _ _ _ _), hid ?_⟩
        rw [HP.out.1, HP.out.2]
        exact store4 HK6.out
      case measure => simp [intOf]; omega
    · obtain rfl : k = 2 := by omega
      have hk7 : wk.heap[bs]? = some (.cells #[.bool false, .string (nmg 1), .bool false, .string (nmg 1)] 58 (0, 0)) := HK.out
      obtain ⟨⟨e0, e1, e2, e3⟩, _⟩ := four_of hk7
      have HK7 := hid hk7
      clear hk7
      generalize nmg 1 = m1 at *
      have hne := fun w => neq_rat m1 m1 w
      have hgd := fun op p q xs ys w => guard_rat op p q xs ys w
      have hbd : Below wk.heap.size wk wk.drew := below_drewN (Below.refl _ _) 1
      have HBd := hid hbd
      clear hbd
      go_upto_region 11 with fail
      go_region_held3 (fun w' => w'.cell? ⟨bs, 0, none⟩ = some (.bool false) ∧ w'.cell? ⟨bs, 1, none⟩ = some (.string m1) ∧ w'.cell? ⟨bs, 2, none⟩ = some (.bool false) ∧ w'.cell? ⟨bs, 3, none⟩ = some (.string m1))
        (first | exact ⟨e0, e1, e2, e3⟩ | go_keep)
        (first | (go_at_call 54; refine (HOne.out _).mono ?_; rintro e w8 ⟨rfl, hb8⟩; have hb8 := bel_step HBd.out hb8; have HB8 := hid (bel_step HB.out hb8); have e0 := keeps hb8 e0; have e1 := keeps hb8 e1; have e2 := keeps hb8 e2; have e3 := keeps hb8 e3; clear hb8))
      all_goals
        go_wp2
        go_ret
        exact ⟨rfl, HB8.out⟩
end Go.Proofs.YtieahckbbohfgaaGreatDoor
