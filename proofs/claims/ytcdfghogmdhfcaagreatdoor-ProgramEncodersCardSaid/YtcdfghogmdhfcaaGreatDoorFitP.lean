/-
  Why a program does not fit an encoder: program.check and the reference's fits, at any encoder and program. (Printed by wip/tools/fitpr.py.)
  No condition beyond the rows lying in slices.
-/
import Derived.Test.YtcdfghogmdhfcaaGreatDoorFitL
import Derived.Test.YtcdfghogmdhfcaaGreatDoorRfCel
import Derived.Test.YtcdfghogmdhfcaaGreatDoorEncChk
import Derived.Test.YtcdfghogmdhfcaaGreatDoorPrRef
namespace Go.Proofs.YtcdfghogmdhfcaaGreatDoor
open Go.RowKit Go.Deep
set_option linter.unusedVariables false
set_option linter.unusedSimpArgs false

set_option maxRecDepth 100000 in
set_option maxHeartbeats 4000000 in
theorem pfit_any (q bl I : Int) (v vc vo : Value) (rows : List (List Cl)) (n : Int) (c : List Ins) (o : List Int) (w : World) (hM : MC w v rows) (hc : Sl 3 w vc c.length (icells c)) (ho : Sl 1 w vo o.length (ints o)) (hI64 : eErr q bl I rows = 0 → I ≤ 64) :
    Calls Tryz.prog 35 #[.agg #[.int .i64 q, .int .i64 bl, .int .i64 I, v], .agg #[.int .i64 n, vc, vo]] w fun e w' => e = .returned (.int .i64 (fitV q bl I rows n c o)) ∧ Below w.heap.size w w' := by
  have HM := hid hM
  have HC := hid hc
  have HO := hid ho
  have HCk := hid (fun X h => echk_any q bl I v rows X h)
  have HPk := hid (fun X h1 h2 => pcheck_any n vc vo c o X h1 h2)
  obtain ⟨am, cap, rfl, hm1, hm2⟩ := hM.slice
  obtain ⟨ac, cc, rfl, _, hc1, hc2, _⟩ := hc
  obtain ⟨ao, co, rfl, _, ho1, ho2, _⟩ := ho
  by_cases hE : eErr q bl I rows = 0
  · rw [hE] at HCk
    by_cases hP : progErr n c o = 0
    · rw [hP] at HPk
      have hV := eErr_zero hE
      obtain ⟨q, rfl⟩ : ∃ k : Nat, q = (k : Int) := ⟨q.toNat, by have := hV.q1; omega⟩
      obtain ⟨bl, rfl⟩ : ∃ k : Nat, bl = (k : Int) := ⟨bl.toNat, by have := hV.b1; omega⟩
      obtain ⟨I, rfl⟩ : ∃ k : Nat, I = (k : Int) := ⟨I.toNat, by have := hV.i1; omega⟩
      have hq1 := hV.q1
      have hq2 := hV.q16
      have hb2 := hV.b16
      have hi1 := hV.i1
      have hi2 := hI64 hE
      have hn1 := hV.r1
      have hn2 := hV.r64
      have hFv := hid (show fitV (q : Int) (bl : Int) (I : Int) rows n c o = if n = ((wid rows.length + wid I : Nat) : Int) ∧ o.length = wid rows.length + bl * wid q then 0 else 11 by
        unfold fitV
        rw [if_neg (by simp [hE, hP])]
        simp only [Int.toNat_natCast])
      have HW1 := hid (fun X => width_any rows.length X (by omega) (by omega))
      have HW2 := hid (fun X => width_any I X (by omega) (by omega))
      have HW3 := hid (fun X => width_any q X (by omega) (by omega))
      have hF1 := (wid_fits (show 1 ≤ rows.length by omega) (by omega)).2.1
      have hF3 := (wid_fits (show 1 ≤ q by omega) (by omega)).2.2.1 (by omega)
      have hF2 := (wid_fits (show 1 ≤ I by omega) (by omega)).2.1
      have hNb := (progErr_zero.1 hP).1
      have hN24 := (progErr_zero.1 hP).2.1
      clear hM hE hV hP hI64
      rw [hFv.out]
      clear hFv
      generalize wid rows.length = SB at *
      generalize wid I = IB at *
      generalize wid q = WQ at *
      obtain ⟨NN, hNN⟩ : ∃ NN, SB + IB = NN := ⟨_, rfl⟩
      rw [hNN]
      have hBW : bl * WQ ≤ 64 := Nat.mul_le_mul (show bl ≤ 16 by omega) hF3
      have hml : IntKind.i64.wrap ((bl : Int) * (WQ : Int)) = ((bl * WQ : Nat) : Int) := by rw [← Int.natCast_mul]; exact IntWalk.i64_in _ (by omega)
      obtain ⟨BW, hBe⟩ : ∃ BW, bl * WQ = BW := ⟨_, rfl⟩
      rw [hBe] at hBW hml ⊢
      clear hBe
      obtain ⟨OB, hOB⟩ : ∃ OB, SB + BW = OB := ⟨_, rfl⟩
      have had : IntKind.i64.wrap ((SB : Int) + (BW : Int)) = (OB : Int) := (IntWalk.i64_in _ (by omega)).trans (by omega)
      have han : IntKind.i64.wrap ((SB : Int) + (IB : Int)) = (NN : Int) := (IntWalk.i64_in _ (by omega)).trans (by omega)
      rw [hOB]
      obtain ⟨FV, hFV⟩ : ∃ FV : Int, (if n = (NN : Int) ∧ o.length = OB then (0 : Int) else 11) = FV := ⟨_, rfl⟩
      rw [hFV]
      generalize rows.length = nr at *
      generalize c.length = CL at *
      generalize o.length = OL at *
      clear hOB hNN
      go_enter Tryz.func35, Tryz.ntmps35
      go_upto_region 1 with fail
      obtain ⟨w0, hw0⟩ : ∃ w0, (w.alloc (.cells #[.int .i64 (q : Int), .int .i64 (bl : Int), .int .i64 (I : Int), .slice am nr cap] 24)).alloc (.cells #[.int .i64 n, .slice ac CL cc, .slice ao OL co] 28) = w0 := ⟨_, rfl⟩
      obtain ⟨hb0, hz0, c0, c1, c2, c3, p0, p1, p2⟩ := box2E hw0
      rw [hw0]
      have HB0 := hid hb0
      clear hw0 hb0 hz0
      go_upto_region 4 with (first
        | (go_at_call 19; refine (HCk.out _ (HM.out.below HB0.out)).mono ?_; rintro e w1 ⟨rfl, hb1⟩; have HB1 := hid (bel_step HB0.out hb1); have c0 := keeps hb1 c0; have c1 := keeps hb1 c1; have c2 := keeps hb1 c2; have c3 := keeps hb1 c3; have p0 := keeps hb1 p0; have p1 := keeps hb1 p1; have p2 := keeps hb1 p2; clear hb1)
        | (go_at_call 39; refine (HPk.out _ (HC.out.below HB1.out) (HO.out.below HB1.out)).mono ?_; rintro e w2 ⟨rfl, hb2⟩; have HB2 := hid (bel_step HB1.out hb2); have c0 := keeps hb2 c0; have c1 := keeps hb2 c1; have c2 := keeps hb2 c2; have c3 := keeps hb2 c3; have p0 := keeps hb2 p0; have p1 := keeps hb2 p1; have p2 := keeps hb2 p2; clear hb2)
        | (go_at_call 20; refine (HW1.out _).mono ?_; rintro e w3 ⟨rfl, rfl⟩))
      clear HCk HPk HW1
      by_cases hn : n = (NN : Int)
      · by_cases hl : OL = OB
        · rw [if_pos ⟨hn, hl⟩] at hFV
          subst hFV
          have hn2 : (n != (NN : Int)) = false := by simp [hn]
          have hl2 : ((OL : Int) != (OB : Int)) = false := by simp [hl]
          clear hn hl
          go_region_held3 (fun w' => w'.cell? ⟨w.heap.size + 1, 0, none⟩ = some (.int .i64 n) ∧ w'.cell? ⟨w.heap.size, 2, none⟩ = some (.int .i64 (I : Int)) ∧ w'.cell? ⟨w.heap.size + 1, 2, none⟩ = some (.slice ao OL co) ∧ w'.cell? ⟨w.heap.size, 1, none⟩ = some (.int .i64 (bl : Int)) ∧ w'.cell? ⟨w.heap.size, 0, none⟩ = some (.int .i64 (q : Int)))
            (first | exact ⟨p0, c2, p2, c1, c0⟩ | go_keep)
            (first
          | (have _g := HM1.out; clear _g; go_at_call 20; refine (HW3.out _).mono ?_; rintro e w4 ⟨rfl, rfl⟩)
          | (go_at_call 20; refine (HW2.out _).mono ?_; rintro e w4 ⟨rfl, rfl⟩; have HM1 := hid True.intro))
          all_goals
            go_wp2
            go_ret
            exact ⟨rfl, bel_step HB2.out (show Below w2.heap.size w2 w2.drew from below_drewN (Below.refl _ _) 1)⟩
        · rw [if_neg (fun h => hl h.2)] at hFV
          subst hFV
          have hn2 : (n != (NN : Int)) = false := by simp [hn]
          have hl2 : ((OL : Int) != (OB : Int)) = true := by simp only [bne_iff_ne, ne_eq]; omega
          clear hn hl
          go_region_held3 (fun w' => w'.cell? ⟨w.heap.size + 1, 0, none⟩ = some (.int .i64 n) ∧ w'.cell? ⟨w.heap.size, 2, none⟩ = some (.int .i64 (I : Int)) ∧ w'.cell? ⟨w.heap.size + 1, 2, none⟩ = some (.slice ao OL co) ∧ w'.cell? ⟨w.heap.size, 1, none⟩ = some (.int .i64 (bl : Int)) ∧ w'.cell? ⟨w.heap.size, 0, none⟩ = some (.int .i64 (q : Int)))
            (first | exact ⟨p0, c2, p2, c1, c0⟩ | go_keep)
            (first
          | (have _g := HM1.out; clear _g; go_at_call 20; refine (HW3.out _).mono ?_; rintro e w4 ⟨rfl, rfl⟩)
          | (go_at_call 20; refine (HW2.out _).mono ?_; rintro e w4 ⟨rfl, rfl⟩; have HM1 := hid True.intro))
          all_goals
            go_wp2
            go_ret
            exact ⟨rfl, bel_step HB2.out (show Below w2.heap.size w2 w2.drew from below_drewN (Below.refl _ _) 1)⟩
      · rw [if_neg (fun h => hn h.1)] at hFV
        subst hFV
        have hn2 : (n != (NN : Int)) = true := by simp only [bne_iff_ne, ne_eq]; exact hn
        clear hn
        refine wp_region_held_drew (S := (fun w' => w'.cell? ⟨w.heap.size + 1, 0, none⟩ = some (.int .i64 n) ∧ w'.cell? ⟨w.heap.size, 2, none⟩ = some (.int .i64 (I : Int)) ∧ w'.cell? ⟨w.heap.size + 1, 2, none⟩ = some (.slice ao OL co) ∧ w'.cell? ⟨w.heap.size, 1, none⟩ = some (.int .i64 (bl : Int)) ∧ w'.cell? ⟨w.heap.size, 0, none⟩ = some (.int .i64 (q : Int)))) (by kernel_rfl) ⟨p0, c2, p2, c1, c0⟩ (fun hHeld => ?_)
        refine wpAnyH_take (i := 0) (v := .pointer (some ⟨w.heap.size + 1, 0, none⟩)) rfl (by kernel_rfl) (by kernel_rfl) (by kernel_rfl) (fun _ _ _ h => h) (Or.inl ⟨by rfl, fun w hSw => ?_⟩) (by assumption) ?_
        · (try dsimp only at hSw); go_simp
        simp only [Act.put, List.setIfInBounds_toArray, List.set_cons_zero, List.set_cons_succ, List.getElem_toArray, List.getElem_cons_zero, List.getElem_cons_succ]
        refine wpAnyH_take (i := 1) (v := .int .i64 n) rfl (by kernel_rfl) (by kernel_rfl) (by kernel_rfl) (fun _ _ _ h => h) (Or.inl ⟨by rfl, fun w hSw => ?_⟩) (by assumption) ?_
        · (try dsimp only at hSw); go_simp
        simp only [Act.put, List.setIfInBounds_toArray, List.set_cons_zero, List.set_cons_succ, List.getElem_toArray, List.getElem_cons_zero, List.getElem_cons_succ]
        refine wpAnyH_take (i := 2) (v := .int .i64 (SB : Int)) rfl (by kernel_rfl) (by kernel_rfl) (by kernel_rfl) (fun _ _ _ h => h) (Or.inl ⟨by rfl, fun w hSw => ?_⟩) (by assumption) ?_
        · (try dsimp only at hSw); go_simp
        simp only [Act.put, List.setIfInBounds_toArray, List.set_cons_zero, List.set_cons_succ, List.getElem_toArray, List.getElem_cons_zero, List.getElem_cons_succ]
        refine wpAnyH_take (i := 3) (v := .pointer (some ⟨w.heap.size, 2, none⟩)) rfl (by kernel_rfl) (by kernel_rfl) (by kernel_rfl) (fun _ _ _ h => h) (Or.inl ⟨by rfl, fun w hSw => ?_⟩) (by assumption) ?_
        · (try dsimp only at hSw); go_simp
        simp only [Act.put, List.setIfInBounds_toArray, List.set_cons_zero, List.set_cons_succ, List.getElem_toArray, List.getElem_cons_zero, List.getElem_cons_succ]
        refine wpAnyH_take (i := 4) (v := .int .i64 (I : Int)) rfl (by kernel_rfl) (by kernel_rfl) (by kernel_rfl) (fun _ _ _ h => h) (Or.inl ⟨by rfl, fun w hSw => ?_⟩) (by assumption) ?_
        · (try dsimp only at hSw); go_simp
        simp only [Act.put, List.setIfInBounds_toArray, List.set_cons_zero, List.set_cons_succ, List.getElem_toArray, List.getElem_cons_zero, List.getElem_cons_succ]
        refine wpAnyH_ready (rs := [5]) (by kernel_rfl) (by simp) (AllReadyH.cons rfl (fun K hK => ?_) AllReadyH.nil)
        go_simp
        (go_at_call 20; refine (HW2.out _).mono ?_; rintro e w4 ⟨rfl, rfl⟩)
        try go_wp2_with fail
        refine hK.out _ _ ⟨p0, c2, p2, c1, c0⟩ (fun hHeld2 => ?_)
        clear hK K
        try simp only [Act.put, List.setIfInBounds_toArray, List.set_cons_zero, List.set_cons_succ, List.getElem_toArray, List.getElem_cons_zero, List.getElem_cons_succ]
        refine wpAnyH_take (i := 6) (v := .int .i64 (NN : Int)) rfl (by kernel_rfl) (by kernel_rfl) (by kernel_rfl) (fun _ _ _ h => h) (Or.inl ⟨by rfl, fun w hSw => ?_⟩) (by assumption) ?_
        · (try dsimp only at hSw); go_simp
        simp only [Act.put, List.setIfInBounds_toArray, List.set_cons_zero, List.set_cons_succ, List.getElem_toArray, List.getElem_cons_zero, List.getElem_cons_succ]
        refine wpAnyH_take (i := 7) (v := .bool true) rfl (by kernel_rfl) (by kernel_rfl) (by kernel_rfl) (fun _ _ _ h => h) (Or.inl ⟨by rfl, fun w hSw => ?_⟩) (by assumption) ?_
        · (try dsimp only at hSw); go_simp
        simp only [Act.put, List.setIfInBounds_toArray, List.set_cons_zero, List.set_cons_succ, List.getElem_toArray, List.getElem_cons_zero, List.getElem_cons_succ]
        refine wpAnyH_take (i := 8) (v := .bool true) rfl (by kernel_rfl) (by kernel_rfl) (by kernel_rfl) (fun _ _ _ h => h) (Or.inl ⟨by rfl, fun w hSw => ?_⟩) (by assumption) ?_
        · (try dsimp only at hSw); go_simp
        simp only [Act.put, List.setIfInBounds_toArray, List.set_cons_zero, List.set_cons_succ, List.getElem_toArray, List.getElem_cons_zero, List.getElem_cons_succ]
        refine wpAnyH_take (i := 9) (v := undef) rfl (by kernel_rfl) (by kernel_rfl) (by kernel_rfl) (fun _ _ _ h => h) (Or.inr ⟨by rfl, rfl⟩) (by assumption) ?_
        simp only [Act.put, List.setIfInBounds_toArray, List.set_cons_zero, List.set_cons_succ, List.getElem_toArray, List.getElem_cons_zero, List.getElem_cons_succ]
        refine wpAnyH_take (i := 10) (v := undef) rfl (by kernel_rfl) (by kernel_rfl) (by kernel_rfl) (fun _ _ _ h => h) (Or.inr ⟨by rfl, rfl⟩) (by assumption) ?_
        simp only [Act.put, List.setIfInBounds_toArray, List.set_cons_zero, List.set_cons_succ, List.getElem_toArray, List.getElem_cons_zero, List.getElem_cons_succ]
        refine wpAnyH_take (i := 11) (v := undef) rfl (by kernel_rfl) (by kernel_rfl) (by kernel_rfl) (fun _ _ _ h => h) (Or.inr ⟨by rfl, rfl⟩) (by assumption) ?_
        simp only [Act.put, List.setIfInBounds_toArray, List.set_cons_zero, List.set_cons_succ, List.getElem_toArray, List.getElem_cons_zero, List.getElem_cons_succ]
        refine wpAnyH_take (i := 12) (v := undef) rfl (by kernel_rfl) (by kernel_rfl) (by kernel_rfl) (fun _ _ _ h => h) (Or.inr ⟨by rfl, rfl⟩) (by assumption) ?_
        simp only [Act.put, List.setIfInBounds_toArray, List.set_cons_zero, List.set_cons_succ, List.getElem_toArray, List.getElem_cons_zero, List.getElem_cons_succ]
        refine wpAnyH_take (i := 13) (v := undef) rfl (by kernel_rfl) (by kernel_rfl) (by kernel_rfl) (fun _ _ _ h => h) (Or.inr ⟨by rfl, rfl⟩) (by assumption) ?_
        simp only [Act.put, List.setIfInBounds_toArray, List.set_cons_zero, List.set_cons_succ, List.getElem_toArray, List.getElem_cons_zero, List.getElem_cons_succ]
        refine wpAnyH_take (i := 14) (v := undef) rfl (by kernel_rfl) (by kernel_rfl) (by kernel_rfl) (fun _ _ _ h => h) (Or.inr ⟨by rfl, rfl⟩) (by assumption) ?_
        simp only [Act.put, List.setIfInBounds_toArray, List.set_cons_zero, List.set_cons_succ, List.getElem_toArray, List.getElem_cons_zero, List.getElem_cons_succ]
        refine wpAnyH_take (i := 15) (v := undef) rfl (by kernel_rfl) (by kernel_rfl) (by kernel_rfl) (fun _ _ _ h => h) (Or.inr ⟨by rfl, rfl⟩) (by assumption) ?_
        simp only [Act.put, List.setIfInBounds_toArray, List.set_cons_zero, List.set_cons_succ, List.getElem_toArray, List.getElem_cons_zero, List.getElem_cons_succ]
        refine wpAnyH_take (i := 16) (v := undef) rfl (by kernel_rfl) (by kernel_rfl) (by kernel_rfl) (fun _ _ _ h => h) (Or.inr ⟨by rfl, rfl⟩) (by assumption) ?_
        simp only [Act.put, List.setIfInBounds_toArray, List.set_cons_zero, List.set_cons_succ, List.getElem_toArray, List.getElem_cons_zero, List.getElem_cons_succ]
        refine wpAnyH_take (i := 17) (v := undef) rfl (by kernel_rfl) (by kernel_rfl) (by kernel_rfl) (fun _ _ _ h => h) (Or.inr ⟨by rfl, rfl⟩) (by assumption) ?_
        simp only [Act.put, List.setIfInBounds_toArray, List.set_cons_zero, List.set_cons_succ, List.getElem_toArray, List.getElem_cons_zero, List.getElem_cons_succ]
        refine wpAnyH_take (i := 18) (v := undef) rfl (by kernel_rfl) (by kernel_rfl) (by kernel_rfl) (fun _ _ _ h => h) (Or.inr ⟨by rfl, rfl⟩) (by assumption) ?_
        simp only [Act.put, List.setIfInBounds_toArray, List.set_cons_zero, List.set_cons_succ, List.getElem_toArray, List.getElem_cons_zero, List.getElem_cons_succ]
        refine wpAnyH_take (i := 19) (v := undef) rfl (by kernel_rfl) (by kernel_rfl) (by kernel_rfl) (fun _ _ _ h => h) (Or.inr ⟨by rfl, rfl⟩) (by assumption) ?_
        simp only [Act.put, List.setIfInBounds_toArray, List.set_cons_zero, List.set_cons_succ, List.getElem_toArray, List.getElem_cons_zero, List.getElem_cons_succ]
        refine wpAnyH_take (i := 20) (v := undef) rfl (by kernel_rfl) (by kernel_rfl) (by kernel_rfl) (fun _ _ _ h => h) (Or.inr ⟨by rfl, rfl⟩) (by assumption) ?_
        simp only [Act.put, List.setIfInBounds_toArray, List.set_cons_zero, List.set_cons_succ, List.getElem_toArray, List.getElem_cons_zero, List.getElem_cons_succ]
        refine wpAnyH_take (i := 21) (v := .bool true) rfl (by kernel_rfl) (by kernel_rfl) (by kernel_rfl) (fun _ _ _ h => h) (Or.inl ⟨by rfl, fun w hSw => ?_⟩) (by assumption) ?_
        · (try dsimp only at hSw); go_simp
        simp only [Act.put, List.setIfInBounds_toArray, List.set_cons_zero, List.set_cons_succ, List.getElem_toArray, List.getElem_cons_zero, List.getElem_cons_succ]
        refine wpAnyH_done (by kernel_rfl) ?_ _
        all_goals
          go_wp2
          go_ret
          exact ⟨rfl, bel_step HB2.out (show Below w2.heap.size w2 w2.drew from below_drewN (Below.refl _ _) 1)⟩
    · have hFv := hid (show fitV q bl I rows n c o = 1 by
        unfold fitV
        rw [if_pos (.inr hP)])
      have hP2 : (progErr n c o != 0) = true := by simp [hP]
      rw [hFv.out]
      clear hM hE hP hFv hI64
      generalize progErr n c o = PE at *
      generalize rows.length = nr at *
      generalize c.length = CL at *
      generalize o.length = OL at *
      go_enter Tryz.func35, Tryz.ntmps35
      go_upto_region 1 with fail
      obtain ⟨w0, hw0⟩ : ∃ w0, (w.alloc (.cells #[.int .i64 q, .int .i64 bl, .int .i64 I, .slice am nr cap] 24)).alloc (.cells #[.int .i64 n, .slice ac CL cc, .slice ao OL co] 28) = w0 := ⟨_, rfl⟩
      obtain ⟨hb0, hz0, c0, c1, c2, c3, p0, p1, p2⟩ := box2E hw0
      rw [hw0]
      have HB0 := hid hb0
      clear hw0 hb0 hz0
      go_wp2_with (first
        | (go_at_call 19; refine (HCk.out _ (HM.out.below HB0.out)).mono ?_; rintro e w1 ⟨rfl, hb1⟩; have HB1 := hid (bel_step HB0.out hb1); have p0 := keeps hb1 p0; have p1 := keeps hb1 p1; have p2 := keeps hb1 p2; clear hb1)
        | (go_at_call 39; refine (HPk.out _ (HC.out.below HB1.out) (HO.out.below HB1.out)).mono ?_; rintro e w2 ⟨rfl, hb2⟩; have HB2 := hid (bel_step HB1.out hb2); clear hb2))
      go_ret
      exact ⟨rfl, HB2.out⟩
  · have hFv := hid (show fitV q bl I rows n c o = 1 by
      unfold fitV
      rw [if_pos (.inl hE)])
    have hE2 : (eErr q bl I rows != 0) = true := by simp [hE]
    rw [hFv.out]
    clear hM hE hFv HPk hI64
    generalize eErr q bl I rows = EE at *
    generalize rows.length = nr at *
    generalize c.length = CL at *
    generalize o.length = OL at *
    go_enter Tryz.func35, Tryz.ntmps35
    go_upto_region 1 with fail
    obtain ⟨w0, hw0⟩ : ∃ w0, (w.alloc (.cells #[.int .i64 q, .int .i64 bl, .int .i64 I, .slice am nr cap] 24)).alloc (.cells #[.int .i64 n, .slice ac CL cc, .slice ao OL co] 28) = w0 := ⟨_, rfl⟩
    obtain ⟨hb0, hz0, c0, c1, c2, c3, p0, p1, p2⟩ := box2E hw0
    rw [hw0]
    have HB0 := hid hb0
    clear hw0 hb0 hz0
    go_wp2_with (go_at_call 19; refine (HCk.out _ (HM.out.below HB0.out)).mono ?_; rintro e w1 ⟨rfl, hb1⟩; have HB1 := hid (bel_step HB0.out hb1); clear hb1)
    go_ret
    exact ⟨rfl, HB1.out⟩
set_option maxRecDepth 100000 in
set_option maxHeartbeats 4000000 in
theorem rfit_any (q bl I : Int) (v vc vo : Value) (rows : List (List Cl)) (n : Int) (c : List Ins) (o : List Int) (w : World) (hM : MC w v rows) (hc : Sl 3 w vc c.length (icells c)) (ho : Sl 1 w vo o.length (ints o)) (hI64 : eErr q bl I rows = 0 → I ≤ 64) :
    Calls Tryz.prog 37 #[.agg #[.int .i64 q, .int .i64 bl, .int .i64 I, v], .agg #[.int .i64 n, vc, vo]] w fun e w' => e = .returned (.int .i64 (fitV q bl I rows n c o)) ∧ Below w.heap.size w w' := by
  have HM := hid hM
  have HC := hid hc
  have HO := hid ho
  have HCk := hid (fun X h => rechk_any q bl I v rows X h)
  have HPk := hid (fun X h1 h2 => rcheck53_any n vc vo c o X h1 h2)
  obtain ⟨am, cap, rfl, hm1, hm2⟩ := hM.slice
  obtain ⟨ac, cc, rfl, _, hc1, hc2, _⟩ := hc
  obtain ⟨ao, co, rfl, _, ho1, ho2, _⟩ := ho
  by_cases hE : eErr q bl I rows = 0
  · rw [hE] at HCk
    by_cases hP : progErr n c o = 0
    · rw [hP] at HPk
      have hV := eErr_zero hE
      obtain ⟨q, rfl⟩ : ∃ k : Nat, q = (k : Int) := ⟨q.toNat, by have := hV.q1; omega⟩
      obtain ⟨bl, rfl⟩ : ∃ k : Nat, bl = (k : Int) := ⟨bl.toNat, by have := hV.b1; omega⟩
      obtain ⟨I, rfl⟩ : ∃ k : Nat, I = (k : Int) := ⟨I.toNat, by have := hV.i1; omega⟩
      have hq1 := hV.q1
      have hq2 := hV.q16
      have hb2 := hV.b16
      have hi1 := hV.i1
      have hi2 := hI64 hE
      have hn1 := hV.r1
      have hn2 := hV.r64
      have hFv := hid (show fitV (q : Int) (bl : Int) (I : Int) rows n c o = if n = ((wid rows.length + wid I : Nat) : Int) ∧ o.length = wid rows.length + bl * wid q then 0 else 11 by
        unfold fitV
        rw [if_neg (by simp [hE, hP])]
        simp only [Int.toNat_natCast])
      have HW1 := hid (fun X => rwidth_any rows.length X (by omega) (by omega))
      have HW2 := hid (fun X => rwidth_any I X (by omega) (by omega))
      have HW3 := hid (fun X => rwidth_any q X (by omega) (by omega))
      have hF1 := (wid_fits (show 1 ≤ rows.length by omega) (by omega)).2.1
      have hF3 := (wid_fits (show 1 ≤ q by omega) (by omega)).2.2.1 (by omega)
      have hF2 := (wid_fits (show 1 ≤ I by omega) (by omega)).2.1
      have hNb := (progErr_zero.1 hP).1
      have hN24 := (progErr_zero.1 hP).2.1
      clear hM hE hV hP hI64
      rw [hFv.out]
      clear hFv
      generalize wid rows.length = SB at *
      generalize wid I = IB at *
      generalize wid q = WQ at *
      obtain ⟨NN, hNN⟩ : ∃ NN, SB + IB = NN := ⟨_, rfl⟩
      rw [hNN]
      have hBW : bl * WQ ≤ 64 := Nat.mul_le_mul (show bl ≤ 16 by omega) hF3
      have hml : IntKind.i64.wrap ((bl : Int) * (WQ : Int)) = ((bl * WQ : Nat) : Int) := by rw [← Int.natCast_mul]; exact IntWalk.i64_in _ (by omega)
      obtain ⟨BW, hBe⟩ : ∃ BW, bl * WQ = BW := ⟨_, rfl⟩
      rw [hBe] at hBW hml ⊢
      clear hBe
      obtain ⟨OB, hOB⟩ : ∃ OB, SB + BW = OB := ⟨_, rfl⟩
      have had : IntKind.i64.wrap ((SB : Int) + (BW : Int)) = (OB : Int) := (IntWalk.i64_in _ (by omega)).trans (by omega)
      have han : IntKind.i64.wrap ((SB : Int) + (IB : Int)) = (NN : Int) := (IntWalk.i64_in _ (by omega)).trans (by omega)
      rw [hOB]
      obtain ⟨FV, hFV⟩ : ∃ FV : Int, (if n = (NN : Int) ∧ o.length = OB then (0 : Int) else 11) = FV := ⟨_, rfl⟩
      rw [hFV]
      generalize rows.length = nr at *
      generalize c.length = CL at *
      generalize o.length = OL at *
      clear hOB hNN
      go_enter Tryz.func37, Tryz.ntmps37
      go_upto_region 1 with fail
      obtain ⟨w0, hw0⟩ : ∃ w0, (w.alloc (.cells #[.int .i64 (q : Int), .int .i64 (bl : Int), .int .i64 (I : Int), .slice am nr cap] 24)).alloc (.cells #[.int .i64 n, .slice ac CL cc, .slice ao OL co] 28) = w0 := ⟨_, rfl⟩
      obtain ⟨hb0, hz0, c0, c1, c2, c3, p0, p1, p2⟩ := box2E hw0
      rw [hw0]
      have HB0 := hid hb0
      clear hw0 hb0 hz0
      go_upto_region 3 with (first
        | (go_at_call 24; refine (HCk.out _ (HM.out.below HB0.out)).mono ?_; rintro e w1 ⟨rfl, hb1⟩; have HB1 := hid (bel_step HB0.out hb1); have c0 := keeps hb1 c0; have c1 := keeps hb1 c1; have c2 := keeps hb1 c2; have c3 := keeps hb1 c3; have p0 := keeps hb1 p0; have p1 := keeps hb1 p1; have p2 := keeps hb1 p2; clear hb1)
        | (go_at_call 64; refine (HPk.out _ (HC.out.below HB1.out) (HO.out.below HB1.out)).mono ?_; rintro e w2 ⟨rfl, hb2⟩; have HB2 := hid (bel_step HB1.out hb2); have c0 := keeps hb2 c0; have c1 := keeps hb2 c1; have c2 := keeps hb2 c2; have c3 := keeps hb2 c3; have p0 := keeps hb2 p0; have p1 := keeps hb2 p1; have p2 := keeps hb2 p2; clear hb2))
      clear HCk HPk
      go_region_held3 (fun w' => w'.cell? ⟨w.heap.size, 2, none⟩ = some (.int .i64 (I : Int)) ∧ w'.cell? ⟨w.heap.size, 3, none⟩ = some (.slice am nr cap))
        (first | exact ⟨c2, c3⟩ | go_keep)
        (first
          | (have _g := HM1.out; clear _g; go_at_call 25; refine (HW2.out _).mono ?_; rintro e w3 ⟨rfl, rfl⟩)
          | (go_at_call 25; refine (HW1.out _).mono ?_; rintro e w3 ⟨rfl, rfl⟩; have HM1 := hid True.intro))
      have hbd : Below w2.heap.size w2 w2.drew := below_drewN (Below.refl _ _) 1
      have c0 := keeps hbd c0
      have c1 := keeps hbd c1
      have c2 := keeps hbd c2
      have c3 := keeps hbd c3
      have p0 := keeps hbd p0
      have p1 := keeps hbd p1
      have p2 := keeps hbd p2
      have HB2 := hid (show Below w.heap.size w w2.drew from bel_step HB2.out hbd)
      clear hbd HM1 HW1 HW2
      generalize w2.drew = w2 at *
      go_upto_region 4 with fail
      by_cases hn : n = (NN : Int)
      · by_cases hl : OL = OB
        · rw [if_pos ⟨hn, hl⟩] at hFV
          subst hFV
          have hn2 : (n != (NN : Int)) = false := by simp [hn]
          have hl2 : ((OL : Int) != (OB : Int)) = false := by simp [hl]
          clear hn hl
          go_region_held3 (fun w' => w'.cell? ⟨w.heap.size + 1, 0, none⟩ = some (.int .i64 n) ∧ w'.cell? ⟨w.heap.size + 1, 2, none⟩ = some (.slice ao OL co) ∧ w'.cell? ⟨w.heap.size, 1, none⟩ = some (.int .i64 (bl : Int)) ∧ w'.cell? ⟨w.heap.size, 0, none⟩ = some (.int .i64 (q : Int)))
            (first | exact ⟨p0, p2, c1, c0⟩ | go_keep)
            (first | (go_at_call 25; refine (HW3.out _).mono ?_; rintro e w4 ⟨rfl, rfl⟩))
          all_goals
            go_wp2
            go_ret
            exact ⟨rfl, bel_step HB2.out (show Below w2.heap.size w2 w2.drew from below_drewN (Below.refl _ _) 1)⟩
        · rw [if_neg (fun h => hl h.2)] at hFV
          subst hFV
          have hn2 : (n != (NN : Int)) = false := by simp [hn]
          have hl2 : ((OL : Int) != (OB : Int)) = true := by simp only [bne_iff_ne, ne_eq]; omega
          clear hn hl
          go_region_held3 (fun w' => w'.cell? ⟨w.heap.size + 1, 0, none⟩ = some (.int .i64 n) ∧ w'.cell? ⟨w.heap.size + 1, 2, none⟩ = some (.slice ao OL co) ∧ w'.cell? ⟨w.heap.size, 1, none⟩ = some (.int .i64 (bl : Int)) ∧ w'.cell? ⟨w.heap.size, 0, none⟩ = some (.int .i64 (q : Int)))
            (first | exact ⟨p0, p2, c1, c0⟩ | go_keep)
            (first | (go_at_call 25; refine (HW3.out _).mono ?_; rintro e w4 ⟨rfl, rfl⟩))
          all_goals
            go_wp2
            go_ret
            exact ⟨rfl, bel_step HB2.out (show Below w2.heap.size w2 w2.drew from below_drewN (Below.refl _ _) 1)⟩
      · rw [if_neg (fun h => hn h.1)] at hFV
        subst hFV
        have hn2 : (n != (NN : Int)) = true := by simp only [bne_iff_ne, ne_eq]; exact hn
        clear hn
        refine wp_region_held_drew (S := (fun w' => w'.cell? ⟨w.heap.size + 1, 0, none⟩ = some (.int .i64 n) ∧ w'.cell? ⟨w.heap.size + 1, 2, none⟩ = some (.slice ao OL co) ∧ w'.cell? ⟨w.heap.size, 1, none⟩ = some (.int .i64 (bl : Int)) ∧ w'.cell? ⟨w.heap.size, 0, none⟩ = some (.int .i64 (q : Int)))) (by kernel_rfl) ⟨p0, p2, c1, c0⟩ (fun hHeld => ?_)
        refine wpAnyH_take (i := 0) (v := .pointer (some ⟨w.heap.size + 1, 0, none⟩)) rfl (by kernel_rfl) (by kernel_rfl) (by kernel_rfl) (fun _ _ _ h => h) (Or.inl ⟨by rfl, fun w hSw => ?_⟩) (by assumption) ?_
        · (try dsimp only at hSw); go_simp
        simp only [Act.put, List.setIfInBounds_toArray, List.set_cons_zero, List.set_cons_succ, List.getElem_toArray, List.getElem_cons_zero, List.getElem_cons_succ]
        refine wpAnyH_take (i := 1) (v := .int .i64 n) rfl (by kernel_rfl) (by kernel_rfl) (by kernel_rfl) (fun _ _ _ h => h) (Or.inl ⟨by rfl, fun w hSw => ?_⟩) (by assumption) ?_
        · (try dsimp only at hSw); go_simp
        simp only [Act.put, List.setIfInBounds_toArray, List.set_cons_zero, List.set_cons_succ, List.getElem_toArray, List.getElem_cons_zero, List.getElem_cons_succ]
        refine wpAnyH_take (i := 2) (v := .int .i64 (SB : Int)) rfl (by kernel_rfl) (by kernel_rfl) (by kernel_rfl) (fun _ _ _ h => h) (Or.inl ⟨by rfl, fun w hSw => ?_⟩) (by assumption) ?_
        · (try dsimp only at hSw); go_simp
        simp only [Act.put, List.setIfInBounds_toArray, List.set_cons_zero, List.set_cons_succ, List.getElem_toArray, List.getElem_cons_zero, List.getElem_cons_succ]
        refine wpAnyH_take (i := 3) (v := .int .i64 (IB : Int)) rfl (by kernel_rfl) (by kernel_rfl) (by kernel_rfl) (fun _ _ _ h => h) (Or.inl ⟨by rfl, fun w hSw => ?_⟩) (by assumption) ?_
        · (try dsimp only at hSw); go_simp
        simp only [Act.put, List.setIfInBounds_toArray, List.set_cons_zero, List.set_cons_succ, List.getElem_toArray, List.getElem_cons_zero, List.getElem_cons_succ]
        refine wpAnyH_take (i := 4) (v := .int .i64 (NN : Int)) rfl (by kernel_rfl) (by kernel_rfl) (by kernel_rfl) (fun _ _ _ h => h) (Or.inl ⟨by rfl, fun w hSw => ?_⟩) (by assumption) ?_
        · (try dsimp only at hSw); go_simp
        simp only [Act.put, List.setIfInBounds_toArray, List.set_cons_zero, List.set_cons_succ, List.getElem_toArray, List.getElem_cons_zero, List.getElem_cons_succ]
        refine wpAnyH_take (i := 5) (v := .bool true) rfl (by kernel_rfl) (by kernel_rfl) (by kernel_rfl) (fun _ _ _ h => h) (Or.inl ⟨by rfl, fun w hSw => ?_⟩) (by assumption) ?_
        · (try dsimp only at hSw); go_simp
        simp only [Act.put, List.setIfInBounds_toArray, List.set_cons_zero, List.set_cons_succ, List.getElem_toArray, List.getElem_cons_zero, List.getElem_cons_succ]
        refine wpAnyH_take (i := 6) (v := .bool true) rfl (by kernel_rfl) (by kernel_rfl) (by kernel_rfl) (fun _ _ _ h => h) (Or.inl ⟨by rfl, fun w hSw => ?_⟩) (by assumption) ?_
        · (try dsimp only at hSw); go_simp
        simp only [Act.put, List.setIfInBounds_toArray, List.set_cons_zero, List.set_cons_succ, List.getElem_toArray, List.getElem_cons_zero, List.getElem_cons_succ]
        refine wpAnyH_take (i := 7) (v := undef) rfl (by kernel_rfl) (by kernel_rfl) (by kernel_rfl) (fun _ _ _ h => h) (Or.inr ⟨by rfl, rfl⟩) (by assumption) ?_
        simp only [Act.put, List.setIfInBounds_toArray, List.set_cons_zero, List.set_cons_succ, List.getElem_toArray, List.getElem_cons_zero, List.getElem_cons_succ]
        refine wpAnyH_take (i := 8) (v := undef) rfl (by kernel_rfl) (by kernel_rfl) (by kernel_rfl) (fun _ _ _ h => h) (Or.inr ⟨by rfl, rfl⟩) (by assumption) ?_
        simp only [Act.put, List.setIfInBounds_toArray, List.set_cons_zero, List.set_cons_succ, List.getElem_toArray, List.getElem_cons_zero, List.getElem_cons_succ]
        refine wpAnyH_take (i := 9) (v := undef) rfl (by kernel_rfl) (by kernel_rfl) (by kernel_rfl) (fun _ _ _ h => h) (Or.inr ⟨by rfl, rfl⟩) (by assumption) ?_
        simp only [Act.put, List.setIfInBounds_toArray, List.set_cons_zero, List.set_cons_succ, List.getElem_toArray, List.getElem_cons_zero, List.getElem_cons_succ]
        refine wpAnyH_take (i := 10) (v := undef) rfl (by kernel_rfl) (by kernel_rfl) (by kernel_rfl) (fun _ _ _ h => h) (Or.inr ⟨by rfl, rfl⟩) (by assumption) ?_
        simp only [Act.put, List.setIfInBounds_toArray, List.set_cons_zero, List.set_cons_succ, List.getElem_toArray, List.getElem_cons_zero, List.getElem_cons_succ]
        refine wpAnyH_take (i := 11) (v := undef) rfl (by kernel_rfl) (by kernel_rfl) (by kernel_rfl) (fun _ _ _ h => h) (Or.inr ⟨by rfl, rfl⟩) (by assumption) ?_
        simp only [Act.put, List.setIfInBounds_toArray, List.set_cons_zero, List.set_cons_succ, List.getElem_toArray, List.getElem_cons_zero, List.getElem_cons_succ]
        refine wpAnyH_take (i := 12) (v := undef) rfl (by kernel_rfl) (by kernel_rfl) (by kernel_rfl) (fun _ _ _ h => h) (Or.inr ⟨by rfl, rfl⟩) (by assumption) ?_
        simp only [Act.put, List.setIfInBounds_toArray, List.set_cons_zero, List.set_cons_succ, List.getElem_toArray, List.getElem_cons_zero, List.getElem_cons_succ]
        refine wpAnyH_take (i := 13) (v := undef) rfl (by kernel_rfl) (by kernel_rfl) (by kernel_rfl) (fun _ _ _ h => h) (Or.inr ⟨by rfl, rfl⟩) (by assumption) ?_
        simp only [Act.put, List.setIfInBounds_toArray, List.set_cons_zero, List.set_cons_succ, List.getElem_toArray, List.getElem_cons_zero, List.getElem_cons_succ]
        refine wpAnyH_take (i := 14) (v := undef) rfl (by kernel_rfl) (by kernel_rfl) (by kernel_rfl) (fun _ _ _ h => h) (Or.inr ⟨by rfl, rfl⟩) (by assumption) ?_
        simp only [Act.put, List.setIfInBounds_toArray, List.set_cons_zero, List.set_cons_succ, List.getElem_toArray, List.getElem_cons_zero, List.getElem_cons_succ]
        refine wpAnyH_take (i := 15) (v := undef) rfl (by kernel_rfl) (by kernel_rfl) (by kernel_rfl) (fun _ _ _ h => h) (Or.inr ⟨by rfl, rfl⟩) (by assumption) ?_
        simp only [Act.put, List.setIfInBounds_toArray, List.set_cons_zero, List.set_cons_succ, List.getElem_toArray, List.getElem_cons_zero, List.getElem_cons_succ]
        refine wpAnyH_take (i := 16) (v := undef) rfl (by kernel_rfl) (by kernel_rfl) (by kernel_rfl) (fun _ _ _ h => h) (Or.inr ⟨by rfl, rfl⟩) (by assumption) ?_
        simp only [Act.put, List.setIfInBounds_toArray, List.set_cons_zero, List.set_cons_succ, List.getElem_toArray, List.getElem_cons_zero, List.getElem_cons_succ]
        refine wpAnyH_take (i := 17) (v := undef) rfl (by kernel_rfl) (by kernel_rfl) (by kernel_rfl) (fun _ _ _ h => h) (Or.inr ⟨by rfl, rfl⟩) (by assumption) ?_
        simp only [Act.put, List.setIfInBounds_toArray, List.set_cons_zero, List.set_cons_succ, List.getElem_toArray, List.getElem_cons_zero, List.getElem_cons_succ]
        refine wpAnyH_take (i := 18) (v := undef) rfl (by kernel_rfl) (by kernel_rfl) (by kernel_rfl) (fun _ _ _ h => h) (Or.inr ⟨by rfl, rfl⟩) (by assumption) ?_
        simp only [Act.put, List.setIfInBounds_toArray, List.set_cons_zero, List.set_cons_succ, List.getElem_toArray, List.getElem_cons_zero, List.getElem_cons_succ]
        refine wpAnyH_take (i := 19) (v := .bool true) rfl (by kernel_rfl) (by kernel_rfl) (by kernel_rfl) (fun _ _ _ h => h) (Or.inl ⟨by rfl, fun w hSw => ?_⟩) (by assumption) ?_
        · (try dsimp only at hSw); go_simp
        simp only [Act.put, List.setIfInBounds_toArray, List.set_cons_zero, List.set_cons_succ, List.getElem_toArray, List.getElem_cons_zero, List.getElem_cons_succ]
        refine wpAnyH_done (by kernel_rfl) ?_ _
        all_goals
          go_wp2
          go_ret
          exact ⟨rfl, bel_step HB2.out (show Below w2.heap.size w2 w2.drew from below_drewN (Below.refl _ _) 1)⟩
    · have hFv := hid (show fitV q bl I rows n c o = 1 by
        unfold fitV
        rw [if_pos (.inr hP)])
      have hP2 : (progErr n c o != 0) = true := by simp [hP]
      rw [hFv.out]
      clear hM hE hP hFv hI64
      generalize progErr n c o = PE at *
      generalize rows.length = nr at *
      generalize c.length = CL at *
      generalize o.length = OL at *
      go_enter Tryz.func37, Tryz.ntmps37
      go_upto_region 1 with fail
      obtain ⟨w0, hw0⟩ : ∃ w0, (w.alloc (.cells #[.int .i64 q, .int .i64 bl, .int .i64 I, .slice am nr cap] 24)).alloc (.cells #[.int .i64 n, .slice ac CL cc, .slice ao OL co] 28) = w0 := ⟨_, rfl⟩
      obtain ⟨hb0, hz0, c0, c1, c2, c3, p0, p1, p2⟩ := box2E hw0
      rw [hw0]
      have HB0 := hid hb0
      clear hw0 hb0 hz0
      go_wp2_with (first
        | (go_at_call 24; refine (HCk.out _ (HM.out.below HB0.out)).mono ?_; rintro e w1 ⟨rfl, hb1⟩; have HB1 := hid (bel_step HB0.out hb1); have p0 := keeps hb1 p0; have p1 := keeps hb1 p1; have p2 := keeps hb1 p2; clear hb1)
        | (go_at_call 64; refine (HPk.out _ (HC.out.below HB1.out) (HO.out.below HB1.out)).mono ?_; rintro e w2 ⟨rfl, hb2⟩; have HB2 := hid (bel_step HB1.out hb2); clear hb2))
      go_ret
      exact ⟨rfl, HB2.out⟩
  · have hFv := hid (show fitV q bl I rows n c o = 1 by
      unfold fitV
      rw [if_pos (.inl hE)])
    have hE2 : (eErr q bl I rows != 0) = true := by simp [hE]
    rw [hFv.out]
    clear hM hE hFv HPk hI64
    generalize eErr q bl I rows = EE at *
    generalize rows.length = nr at *
    generalize c.length = CL at *
    generalize o.length = OL at *
    go_enter Tryz.func37, Tryz.ntmps37
    go_upto_region 1 with fail
    obtain ⟨w0, hw0⟩ : ∃ w0, (w.alloc (.cells #[.int .i64 q, .int .i64 bl, .int .i64 I, .slice am nr cap] 24)).alloc (.cells #[.int .i64 n, .slice ac CL cc, .slice ao OL co] 28) = w0 := ⟨_, rfl⟩
    obtain ⟨hb0, hz0, c0, c1, c2, c3, p0, p1, p2⟩ := box2E hw0
    rw [hw0]
    have HB0 := hid hb0
    clear hw0 hb0 hz0
    go_wp2_with (go_at_call 24; refine (HCk.out _ (HM.out.below HB0.out)).mono ?_; rintro e w1 ⟨rfl, hb1⟩; have HB1 := hid (bel_step HB0.out hb1); clear hb1)
    go_ret
    exact ⟨rfl, HB1.out⟩
end Go.Proofs.YtcdfghogmdhfcaaGreatDoor
