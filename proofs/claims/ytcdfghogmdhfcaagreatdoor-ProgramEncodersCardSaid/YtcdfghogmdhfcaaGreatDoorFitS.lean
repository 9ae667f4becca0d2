/-
  What a program that fits says for a state and an input: program.step, the reference's step; both Steps at any arguments. (Printed by wip/tools/fitst.py.)
  No condition beyond the rows lying in slices. At most 64 inputs where the encoder is valid.
-/
import Derived.Test.YtcdfghogmdhfcaaGreatDoorFitP
import Derived.Test.YtcdfghogmdhfcaaGreatDoorPrRefRun
import Derived.Laws.StructEq
namespace Go.Proofs.YtcdfghogmdhfcaaGreatDoor
open Go.RowKit Go.Deep
set_option linter.unusedVariables false
set_option linter.unusedSimpArgs false

/-- A program that fits. -/
structure Fit (q bl I : Nat) (rows : List (List Cl)) (c : List Ins) (o : List Int) : Prop where
  e : EncV (q : Int) (bl : Int) (I : Int) rows
  i64 : I ≤ 64
  p : progErr ((wid rows.length + wid I : Nat) : Int) c o = 0
  l : o.length = wid rows.length + bl * wid q
theorem fitV_zero {q bl I n : Int} {rows : List (List Cl)} {c : List Ins} {o : List Int} (h : fitV q bl I rows n c o = 0) (hI : eErr q bl I rows = 0 → I ≤ 64) : ∃ q' bl' I' : Nat, q = q' ∧ bl = bl' ∧ I = I' ∧ n = ((wid rows.length + wid I' : Nat) : Int) ∧ Fit q' bl' I' rows c o := by
  unfold fitV at h
  by_cases hE : eErr q bl I rows = 0
  · by_cases hP : progErr n c o = 0
    · rw [if_neg (by simp [hE, hP])] at h
      have hV := eErr_zero hE
      by_cases hf : n = ((wid rows.length + wid I.toNat : Nat) : Int) ∧ o.length = wid rows.length + bl.toNat * wid q.toNat
      · refine ⟨q.toNat, bl.toNat, I.toNat, by have := hV.q1; omega, by have := hV.b1; omega, by have := hV.i1; omega, hf.1, ?_⟩
        have e1 : ((q.toNat : Nat) : Int) = q := by have := hV.q1; omega
        have e2 : ((bl.toNat : Nat) : Int) = bl := by have := hV.b1; omega
        have e3 : ((I.toNat : Nat) : Int) = I := by have := hV.i1; omega
        exact ⟨by rw [e1, e2, e3]; exact hV, by have := hI hE; have := hV.i1; omega, by rw [← hf.1]; exact hP, hf.2⟩
      · rw [if_neg hf] at h; omega
    · rw [if_pos (.inr hP)] at h; omega
  · rw [if_pos (.inl hE)] at h; omega
section
variable {q bl I : Nat} {rows : List (List Cl)} {c : List Ins} {o : List Int}
theorem Fit.wq (h : Fit q bl I rows c o) : wid q ≤ 4 := (wid_fits (show 1 ≤ q by have := h.e.q1; omega) (by have := h.e.q16; omega)).2.2.1 (by have := h.e.q16; omega)
theorem Fit.bits (h : Fit q bl I rows c o) (s k : Nat) : (poutsV (binL (wid rows.length) s ++ binL (wid I) k) c o).length = wid rows.length + bl * wid q := by rw [poutsV_len, h.l]
end
theorem psay_any (q bl I s k : Nat) (v vc vo : Value) (rows : List (List Cl)) (c : List Ins) (o : List Int) (w : World) (hM : MC w v rows) (hc : Sl 3 w vc c.length (icells c)) (ho : Sl 1 w vo o.length (ints o)) (hF : Fit q bl I rows c o) (hs : s < 1000) (hk : k < 1000) :
    Calls Tryz.prog 36 #[.agg #[.int .i64 (q : Int), .int .i64 (bl : Int), .int .i64 (I : Int), v], .agg #[.int .i64 ((wid rows.length + wid I : Nat) : Int), vc, vo], .int .i64 (s : Int), .int .i64 (k : Int)] w fun e w' => e = .returned (.agg #[.int .i64 (sayCl q bl I rows.length c o s k).st, .string (sayCl q bl I rows.length c o s k).word]) ∧ Below w.heap.size w w' := by
  obtain ⟨am, cap, rfl, hm1, hm2⟩ := hM.slice
  have h1 := hF.e.q1
  have h2 := hF.e.q16
  have h3 := hF.e.b16
  have h4 := hF.e.i1
  have h5 := hF.i64
  have h6 := hF.e.r1
  have h7 := hF.e.r64
  have hst := decCl_st (sb := wid rows.length) (wq := wid q) (bl := bl) (T := poutsV (binL (wid rows.length) s ++ binL (wid I) k) c o)
  exact step_gen q bl I rows.length (2 ^ wid q) (2 ^ wid rows.length) cap s k am vc vo c o _ w hc ho hF.p (by omega) (by omega) (by omega) (by omega) (by omega) (by omega) (by omega) (by omega) (by omega) hm1 hm2 hst.1 (by have := hst.2; exact this) (Nat.le_refl _) (decCl_size _ _ _ _) (decCl_word hF.wq (by omega)) (Nat.le_refl _) (decCl_bits hF.wq (hF.bits s k)).symm
/-- What Step yields. -/
def stepV (q bl I : Int) (rows : List (List Cl)) (n : Int) (c : List Ins) (o : List Int) (s k : Int) : Int × ByteArray × Int :=
  if fitV q bl I rows n c o ≠ 0 then (0, ⟨#[]⟩, fitV q bl I rows n c o) else if s < 0 ∨ (rows.length : Int) ≤ s then (0, ⟨#[]⟩, 25) else if k < 0 ∨ I ≤ k then (0, ⟨#[]⟩, 2)
  else ((sayCl q.toNat bl.toNat I.toNat rows.length c o s.toNat k.toNat).st, (sayCl q.toNat bl.toNat I.toNat rows.length c o s.toNat k.toNat).word, 0)
set_option maxRecDepth 100000 in
set_option maxHeartbeats 4000000 in
theorem pStep_any (q bl I : Int) (v vc vo : Value) (rows : List (List Cl)) (n : Int) (c : List Ins) (o : List Int) (s k : Int) (w : World) (hM : MC w v rows) (hc : Sl 3 w vc c.length (icells c)) (ho : Sl 1 w vo o.length (ints o)) (hI64 : eErr q bl I rows = 0 → I ≤ 64) :
    Calls Tryz.prog 11 #[.agg #[.int .i64 q, .int .i64 bl, .int .i64 I, v], .agg #[.int .i64 n, vc, vo], .int .i64 s, .int .i64 k] w fun e w' => e = .returned (.tuple #[.int .i64 (stepV q bl I rows n c o s k).1, .string (stepV q bl I rows n c o s k).2.1, .int .i64 (stepV q bl I rows n c o s k).2.2]) ∧ Below w.heap.size w w' := by
  have HM := hid hM
  have HC := hid hc
  have HO := hid ho
  have HCk := hid (fun X h1 h2 h3 => pfit_any q bl I v vc vo rows n c o X h1 h2 h3 hI64)
  obtain ⟨am, cap, rfl, hm1, hm2⟩ := hM.slice
  by_cases hF : fitV q bl I rows n c o = 0
  · rw [hF] at HCk
    have hSv : stepV q bl I rows n c o s k = if s < 0 ∨ (rows.length : Int) ≤ s then (0, ⟨#[]⟩, 25) else if k < 0 ∨ I ≤ k then (0, ⟨#[]⟩, 2) else ((sayCl q.toNat bl.toNat I.toNat rows.length c o s.toNat k.toNat).st, (sayCl q.toNat bl.toNat I.toNat rows.length c o s.toNat k.toNat).word, 0) := by
      unfold stepV
      rw [if_neg (by simp [hF])]
    rw [hSv]
    clear hSv
    obtain ⟨q, bl, I, rfl, rfl, rfl, rfl, hFit⟩ := fitV_zero hF hI64
    simp only [Int.toNat_natCast]
    have hi64 := hFit.i64
    have hr64 := hFit.e.r64
    have HSt := hid (fun s k X h1 h2 h3 hs hk => psay_any q bl I s k (.slice am rows.length cap) vc vo rows c o X h1 h2 h3 hFit hs hk)
    obtain ⟨ac, cc, rfl, _, hc1, hc2, _⟩ := hc
    obtain ⟨ao, co, rfl, _, ho1, ho2, _⟩ := ho
    clear hM hF hI64 hFit
    obtain ⟨NN, hNN⟩ : ∃ NN, wid rows.length + wid I = NN := ⟨_, rfl⟩
    rw [hNN] at HCk HSt ⊢
    clear hNN
    generalize rows.length = nr at *
    generalize c.length = CL at *
    generalize o.length = OL at *
    by_cases hs0 : s < 0
    · rw [if_pos (.inl hs0)]
      go_enter Tryz.func11, Tryz.ntmps11
      go_upto_region 1 with fail
      obtain ⟨w0, hw0⟩ : ∃ w0, (w.alloc (.cells #[.int .i64 (q : Int), .int .i64 (bl : Int), .int .i64 (I : Int), .slice am nr cap] 24)).alloc (.cells #[.int .i64 (NN : Int), .slice ac CL cc, .slice ao OL co] 28) = w0 := ⟨_, rfl⟩
      obtain ⟨hb0, hz0, c0, c1, c2, c3, p0, p1, p2⟩ := box2E hw0
      rw [hw0]
      have HB0 := hid hb0
      clear hw0 hb0 hz0
      go_wp2_with (go_at_call 35; refine (HCk.out _ (HM.out.below HB0.out) (HC.out.below HB0.out) (HO.out.below HB0.out)).mono ?_; rintro e w1 ⟨rfl, hb1⟩; have HB1 := hid (bel_step HB0.out hb1); have c0 := keeps hb1 c0; have c1 := keeps hb1 c1; have c2 := keeps hb1 c2; have c3 := keeps hb1 c3; have p0 := keeps hb1 p0; have p1 := keeps hb1 p1; have p2 := keeps hb1 p2; clear hb1)
      go_ret3
      exact ⟨rfl, HB1.out⟩
    by_cases hs1 : (nr : Int) ≤ s
    · rw [if_pos (.inr hs1)]
      go_enter Tryz.func11, Tryz.ntmps11
      go_upto_region 1 with fail
      obtain ⟨w0, hw0⟩ : ∃ w0, (w.alloc (.cells #[.int .i64 (q : Int), .int .i64 (bl : Int), .int .i64 (I : Int), .slice am nr cap] 24)).alloc (.cells #[.int .i64 (NN : Int), .slice ac CL cc, .slice ao OL co] 28) = w0 := ⟨_, rfl⟩
      obtain ⟨hb0, hz0, c0, c1, c2, c3, p0, p1, p2⟩ := box2E hw0
      rw [hw0]
      have HB0 := hid hb0
      clear hw0 hb0 hz0
      go_wp2_with (go_at_call 35; refine (HCk.out _ (HM.out.below HB0.out) (HC.out.below HB0.out) (HO.out.below HB0.out)).mono ?_; rintro e w1 ⟨rfl, hb1⟩; have HB1 := hid (bel_step HB0.out hb1); have c0 := keeps hb1 c0; have c1 := keeps hb1 c1; have c2 := keeps hb1 c2; have c3 := keeps hb1 c3; have p0 := keeps hb1 p0; have p1 := keeps hb1 p1; have p2 := keeps hb1 p2; clear hb1)
      go_ret3
      exact ⟨rfl, HB1.out⟩
    rw [if_neg (fun h => h.elim hs0 hs1)]
    by_cases hk0 : k < 0
    · rw [if_pos (.inl hk0)]
      go_enter Tryz.func11, Tryz.ntmps11
      go_upto_region 1 with fail
      obtain ⟨w0, hw0⟩ : ∃ w0, (w.alloc (.cells #[.int .i64 (q : Int), .int .i64 (bl : Int), .int .i64 (I : Int), .slice am nr cap] 24)).alloc (.cells #[.int .i64 (NN : Int), .slice ac CL cc, .slice ao OL co] 28) = w0 := ⟨_, rfl⟩
      obtain ⟨hb0, hz0, c0, c1, c2, c3, p0, p1, p2⟩ := box2E hw0
      rw [hw0]
      have HB0 := hid hb0
      clear hw0 hb0 hz0
      go_wp2_with (go_at_call 35; refine (HCk.out _ (HM.out.below HB0.out) (HC.out.below HB0.out) (HO.out.below HB0.out)).mono ?_; rintro e w1 ⟨rfl, hb1⟩; have HB1 := hid (bel_step HB0.out hb1); have c0 := keeps hb1 c0; have c1 := keeps hb1 c1; have c2 := keeps hb1 c2; have c3 := keeps hb1 c3; have p0 := keeps hb1 p0; have p1 := keeps hb1 p1; have p2 := keeps hb1 p2; clear hb1)
      go_ret3
      exact ⟨rfl, HB1.out⟩
    by_cases hk1 : (I : Int) ≤ k
    · rw [if_pos (.inr hk1)]
      go_enter Tryz.func11, Tryz.ntmps11
      go_upto_region 1 with fail
      obtain ⟨w0, hw0⟩ : ∃ w0, (w.alloc (.cells #[.int .i64 (q : Int), .int .i64 (bl : Int), .int .i64 (I : Int), .slice am nr cap] 24)).alloc (.cells #[.int .i64 (NN : Int), .slice ac CL cc, .slice ao OL co] 28) = w0 := ⟨_, rfl⟩
      obtain ⟨hb0, hz0, c0, c1, c2, c3, p0, p1, p2⟩ := box2E hw0
      rw [hw0]
      have HB0 := hid hb0
      clear hw0 hb0 hz0
      go_wp2_with (go_at_call 35; refine (HCk.out _ (HM.out.below HB0.out) (HC.out.below HB0.out) (HO.out.below HB0.out)).mono ?_; rintro e w1 ⟨rfl, hb1⟩; have HB1 := hid (bel_step HB0.out hb1); have c0 := keeps hb1 c0; have c1 := keeps hb1 c1; have c2 := keeps hb1 c2; have c3 := keeps hb1 c3; have p0 := keeps hb1 p0; have p1 := keeps hb1 p1; have p2 := keeps hb1 p2; clear hb1)
      go_ret3
      exact ⟨rfl, HB1.out⟩
    rw [if_neg (fun h => h.elim hk0 hk1)]
    obtain ⟨s, rfl⟩ : ∃ s' : Nat, s = (s' : Int) := ⟨s.toNat, by omega⟩
    obtain ⟨k, rfl⟩ : ∃ k' : Nat, k = (k' : Int) := ⟨k.toNat, by omega⟩
    simp only [Int.toNat_natCast]
    have HSs := hid (fun X h1 h2 h3 => HSt.out s k X h1 h2 h3 (by omega) (by omega))
    clear HSt
    generalize sayCl q bl I nr c o s k = x at *
    go_enter Tryz.func11, Tryz.ntmps11
    go_upto_region 1 with fail
    obtain ⟨w0, hw0⟩ : ∃ w0, (w.alloc (.cells #[.int .i64 (q : Int), .int .i64 (bl : Int), .int .i64 (I : Int), .slice am nr cap] 24)).alloc (.cells #[.int .i64 (NN : Int), .slice ac CL cc, .slice ao OL co] 28) = w0 := ⟨_, rfl⟩
    obtain ⟨hb0, hz0, c0, c1, c2, c3, p0, p1, p2⟩ := box2E hw0
    rw [hw0]
    have HB0 := hid hb0
    clear hw0 hb0 hz0
    go_upto_region 9 with (first
      | (go_at_call 35; refine (HCk.out _ (HM.out.below HB0.out) (HC.out.below HB0.out) (HO.out.below HB0.out)).mono ?_; rintro e w1 ⟨rfl, hb1⟩; have HB1 := hid (bel_step HB0.out hb1); have c0 := keeps hb1 c0; have c1 := keeps hb1 c1; have c2 := keeps hb1 c2; have c3 := keeps hb1 c3; have p0 := keeps hb1 p0; have p1 := keeps hb1 p1; have p2 := keeps hb1 p2; clear hb1)
      | (go_at_call 36; refine (HSs.out _ (HM.out.below HB1.out) (HC.out.below HB1.out) (HO.out.below HB1.out)).mono ?_; rintro e w2 ⟨rfl, hb2⟩; have HB2 := hid (bel_step HB1.out hb2); clear hb2))
    obtain ⟨w3, hw3⟩ : ∃ w3, w2.alloc (.cells #[.int .i64 x.st, .string x.word] 45) = w3 := ⟨_, rfl⟩
    obtain ⟨hb3, y0, y1⟩ := boxedC hw3
    rw [hw3]
    have HB3 := hid (bel_step HB2.out hb3)
    clear hw3 hb3
    go_region
    go_wp2
    go_ret3
    exact ⟨rfl, bel_step HB3.out (show Below w3.heap.size w3 w3.drew from below_drewN (Below.refl _ _) 1)⟩
  · have hSv : stepV q bl I rows n c o s k = (0, ⟨#[]⟩, fitV q bl I rows n c o) := by
      unfold stepV
      rw [if_pos hF]
    rw [hSv]
    obtain ⟨ac, cc, rfl, _, hc1, hc2, _⟩ := hc
    obtain ⟨ao, co, rfl, _, ho1, ho2, _⟩ := ho
    have hF2 : (fitV q bl I rows n c o != 0) = true := by simp [hF]
    clear hM hI64 hSv hF
    generalize fitV q bl I rows n c o = fv at *
    generalize rows.length = nr at *
    generalize c.length = CL at *
    generalize o.length = OL at *
    go_enter Tryz.func11, Tryz.ntmps11
    go_upto_region 1 with fail
    obtain ⟨w0, hw0⟩ : ∃ w0, (w.alloc (.cells #[.int .i64 q, .int .i64 bl, .int .i64 I, .slice am nr cap] 24)).alloc (.cells #[.int .i64 n, .slice ac CL cc, .slice ao OL co] 28) = w0 := ⟨_, rfl⟩
    obtain ⟨hb0, hz0, c0, c1, c2, c3, p0, p1, p2⟩ := box2E hw0
    rw [hw0]
    have HB0 := hid hb0
    clear hw0 hb0 hz0
    go_wp2_with (go_at_call 35; refine (HCk.out _ (HM.out.below HB0.out) (HC.out.below HB0.out) (HO.out.below HB0.out)).mono ?_; rintro e w1 ⟨rfl, hb1⟩; have HB1 := hid (bel_step HB0.out hb1); have c0 := keeps hb1 c0; have c1 := keeps hb1 c1; have c2 := keeps hb1 c2; have c3 := keeps hb1 c3; have p0 := keeps hb1 p0; have p1 := keeps hb1 p1; have p2 := keeps hb1 p2; clear hb1)
    go_ret3
    exact ⟨rfl, HB1.out⟩
theorem bitS_part (T : List Bool) (lo hi : Nat) : (bitS T).extract lo hi = bitS ((T.drop lo).take (hi - lo)) := by
  apply ByteArray.ext; apply Array.toList_inj.1
  rw [ByteArray.data_extract, Array.toList_extract, List.extract_eq_take_drop, bitS_list, bitS_list, List.map_take, List.map_drop]
set_option maxRecDepth 100000 in
set_option maxHeartbeats 8000000 in
theorem rsay_any (q bl I s k : Nat) (v vc vo : Value) (rows : List (List Cl)) (c : List Ins) (o : List Int) (w : World) (hM : MC w v rows) (hc : Sl 3 w vc c.length (icells c)) (ho : Sl 1 w vo o.length (ints o)) (hF : Fit q bl I rows c o) (hs : s < 1000) (hk : k < 1000) :
    Calls Tryz.prog 38 #[.agg #[.int .i64 (q : Int), .int .i64 (bl : Int), .int .i64 (I : Int), v], .agg #[.int .i64 ((wid rows.length + wid I : Nat) : Int), vc, vo], .int .i64 (s : Int), .int .i64 (k : Int)] w fun e w' => e = .returned (.tuple #[.int .i64 (sayCl q bl I rows.length c o s k).st, .string (sayCl q bl I rows.length c o s k).word]) ∧ Below w.heap.size w w' := by
  have HC := hid hc
  have HO := hid ho
  obtain ⟨am, cap, rfl, hm1, hm2⟩ := hM.slice
  have h1 := hF.e.q1
  have h2 := hF.e.q16
  have h3 := hF.e.b16
  have h4 := hF.e.i1
  have h5 := hF.i64
  have h6 := hF.e.r1
  have h7 := hF.e.r64
  have hwq := hF.wq
  have hsb := (wid_fits (show 1 ≤ rows.length by omega) (by omega)).2.1
  have hib := (wid_fits (show 1 ≤ I by omega) (by omega)).2.1
  have HW1 := hid (fun X => rwidth_any rows.length X (by omega) (by omega))
  have HW2 := hid (fun X => rwidth_any I X (by omega) (by omega))
  have HW3 := hid (fun X => rwidth_any q X (by omega) (by omega))
  have HB1 := hid (fun X => rbinary_any s (wid rows.length) X (by omega) (by omega))
  have HB2 := hid (fun X => rbinary_any k (wid I) X (by omega) (by omega))
  have HCo := hid (fun X g1 g2 => compute_any ((wid rows.length + wid I : Nat) : Int) vc vo c o (bitS (binL (wid rows.length) s ++ binL (wid I) k)) X g1 g2 (okBits_bitS _) (by rw [bitS_size, List.length_append, binL_len, binL_len]) hF.p)
  rw [bitsB_bitS] at HCo
  have hTl := hF.bits s k
  have hws := decCl_size (wid rows.length) (wid q) bl (poutsV (binL (wid rows.length) s ++ binL (wid I) k) c o)
  have HWl := hid (show ∀ j, j < bl → (sayCl q bl I rows.length c o s k).word.data.toList[j]? = some (letN (poutsV (binL (wid rows.length) s ++ binL (wid I) k) c o) (wid rows.length + j * wid q) (wid q)) from by
    intro j hj
    show ((List.range bl).map fun i => letN (poutsV (binL (wid rows.length) s ++ binL (wid I) k) c o) (wid rows.length + i * wid q) (wid q)).toArray.toList[j]? = _
    simp [hj])
  have HSt := hid (show ((numB ((poutsV (binL (wid rows.length) s ++ binL (wid I) k) c o).take (wid rows.length)) : Nat) : Int) = (sayCl q bl I rows.length c o s k).st from rfl)
  have hs1 : (bitS (binL (wid rows.length) s)).size + (bitS (binL (wid I) k)).size ≤ 9223372036854775807 := by rw [bitS_size, bitS_size, binL_len, binL_len]; omega
  have hcat := str_cat _ _ hs1
  rw [bitS_append] at hcat
  obtain ⟨ac, cc, rfl, _, hc1, hc2, _⟩ := hc
  obtain ⟨ao, co, rfl, _, ho1, ho2, _⟩ := ho
  have hwsz : (sayCl q bl I rows.length c o s k).word.size = bl := hws
  clear hM hF hws hs1
  generalize sayCl q bl I rows.length c o s k = x at *
  generalize poutsV (binL (wid rows.length) s ++ binL (wid I) k) c o = T at *
  generalize bitS (binL (wid rows.length) s ++ binL (wid I) k) = S12 at *
  generalize bitS (binL (wid rows.length) s) = S1 at *
  generalize bitS (binL (wid I) k) = S2 at *
  generalize wid rows.length = SB at *
  generalize wid I = IB at *
  generalize wid q = WQ at *
  generalize rows.length = nr at *
  generalize c.length = CL at *
  generalize o.length = OL at *
  obtain ⟨NN, hNN⟩ : ∃ NN, SB + IB = NN := ⟨_, rfl⟩
  rw [hNN] at HCo ⊢
  clear hNN
  go_enter Tryz.func38, Tryz.ntmps38
  go_upto_region 1 with fail
  obtain ⟨w0, hw0⟩ : ∃ w0, (w.alloc (.cells #[.int .i64 (q : Int), .int .i64 (bl : Int), .int .i64 (I : Int), .slice am nr cap] 24)).alloc (.cells #[.int .i64 (NN : Int), .slice ac CL cc, .slice ao OL co] 28) = w0 := ⟨_, rfl⟩
  obtain ⟨hb0, hz0, c0, c1, c2, c3, p0, p1, p2⟩ := box2E hw0
  rw [hw0]
  have HB0 := hid hb0
  clear hw0 hb0 hz0
  go_region_held3 (fun w' => w'.cell? ⟨w.heap.size, 0, none⟩ = some (.int .i64 (q : Int)) ∧ w'.cell? ⟨w.heap.size, 3, none⟩ = some (.slice am nr cap))
    (first | exact ⟨c0, c3⟩ | go_keep)
    (first
      | (have _g := HM1.out; clear _g; go_at_call 25; refine (HW3.out _).mono ?_; rintro e w2 ⟨rfl, rfl⟩)
      | (go_at_call 25; refine (HW1.out _).mono ?_; rintro e w2 ⟨rfl, rfl⟩; have HM1 := hid True.intro))
  have hbd : Below w0.heap.size w0 w0.drew := below_drewN (Below.refl _ _) 1
  have c0 := keeps hbd c0
  have c1 := keeps hbd c1
  have c2 := keeps hbd c2
  have c3 := keeps hbd c3
  have p0 := keeps hbd p0
  have p1 := keeps hbd p1
  have p2 := keeps hbd p2
  have HB0d := hid (show Below w.heap.size w w0.drew from bel_step HB0.out hbd)
  clear hbd HM1 HW1 HW3 HB0
  generalize w0.drew = w2 at *
  go_upto_region 2 with fail
  have HSw := hid (show Below w2.heap.size w2 w2.drew from below_drewN (Below.refl _ _) 1)
  go_region_held3 (fun w' => w'.cell? ⟨w.heap.size, 2, none⟩ = some (.int .i64 (I : Int)) ∧ w'.cell? ⟨w.heap.size + 1, 0, none⟩ = some (.int .i64 (NN : Int)) ∧ w'.cell? ⟨w.heap.size + 1, 1, none⟩ = some (.slice ac CL cc) ∧ w'.cell? ⟨w.heap.size + 1, 2, none⟩ = some (.slice ao OL co))
    (first | exact ⟨c2, p0, p1, p2⟩ | go_keep)
    (first
      | (go_at_call 65; refine (HCo.out _ (HC.out.below (bel_step HB0d.out HBx4.out)) (HO.out.below (bel_step HB0d.out HBx4.out))).mono ?_; rintro e w6 ⟨rfl, hb6⟩; have HBx6 := hid (bel_step HBx4.out hb6); have c2 := keeps hb6 c2; have p0 := keeps hb6 p0; have p1 := keeps hb6 p1; have p2 := keeps hb6 p2; clear hb6)
      | (have _g := HM1.out; clear _g; go_at_call 26; refine (HB2.out _).mono ?_; rintro e w4 ⟨rfl, hb4⟩; have HBx4 := hid (bel_step HBx3.out hb4); have c2 := keeps hb4 c2; have p0 := keeps hb4 p0; have p1 := keeps hb4 p1; have p2 := keeps hb4 p2; clear hb4)
      | (have _g := HM0.out; clear _g; go_at_call 25; refine (HW2.out _).mono ?_; rintro e w7 ⟨rfl, rfl⟩; have HM1 := hid True.intro)
      | (go_at_call 26; refine (HB1.out _).mono ?_; rintro e w3 ⟨rfl, hb3⟩; have HM0 := hid True.intro; have hbx := bel_step HSw.out hb3; have HBx3 := hid hbx; have c2 := keeps hbx c2; have p0 := keeps hbx p0; have p1 := keeps hbx p1; have p2 := keeps hbx p2; clear hb3 hbx))
  have c1 := keeps HBx6.out c1
  have HB6 := hid (bel_step HB0d.out HBx6.out)
  clear c0 c2 c3 p0 p1 p2 hcat HBx6 HBx4 HBx3 HM0 HM1 HSw HB1 HB2 HW2 HCo HC HO
  have hTs := bitS_size T
  rw [hTl] at hTs
  have HN1 := hid (fun X => rnumber_any (T.take SB) X (by rw [List.length_take]; omega))
  have e1 := bitS_part T 0 SB
  rw [List.drop_zero, Nat.sub_zero] at e1
  rw [← e1, HSt.out] at HN1
  have HPt := hid (fun lo hi => bitS_part T lo hi)
  have hSO : (SB : Int) ≤ ((bitS T).size : Int) := by rw [hTs]; omega
  clear e1
  generalize bitS T = bs at *
  have HTs := hid hTs
  clear hTs
  go_upto_region 5 with (go_at_call 66; refine (HN1.out _).mono ?_; rintro e w7 ⟨rfl, rfl⟩)
  clear hSO HN1
  go_loop [14, 15] (fun s i => ∃ j : Nat, j ≤ bl ∧ i = .int .i64 (j : Int) ∧ s = .string (prefB x.word j)) (fun _ i => bl - (intOf i).toNat)
  case atStart => exact ⟨0, Nat.zero_le _, rfl, rfl⟩
  case round =>
    obtain ⟨j, hj, rfl, rfl⟩ := hrel
    by_cases hlt : j < bl
    · have hltI : (j : Int) < (bl : Int) := by omega
      obtain ⟨M1, hM1⟩ : ∃ M1, j * WQ = M1 := ⟨_, rfl⟩
      obtain ⟨LO, hLO⟩ : ∃ LO, SB + M1 = LO := ⟨_, rfl⟩
      obtain ⟨HI, hHI⟩ : ∃ HI, LO + WQ = HI := ⟨_, rfl⟩
      have hm := Nat.mul_le_mul_right WQ (show j + 1 ≤ bl by omega)
      rw [Nat.succ_mul, hM1] at hm
      have hb64 : bl * WQ ≤ 64 := Nat.mul_le_mul (show bl ≤ 16 by omega) hwq
      have hHO : (HI : Int) ≤ (bs.size : Int) := by rw [HTs.out]; omega
      have hLH : (LO : Int) ≤ (HI : Int) := by omega
      have hLL : LO ≤ 200 := by omega
      have hch := HWl.out j hlt
      rw [hM1, hLO] at hch
      have hD : numB ((T.drop LO).take WQ) = dig (letN T LO WQ) := by unfold dig; rw [letN_dig hwq, Int.toNat_natCast]
      have hD16 : dig (letN T LO WQ) < 16 := by rw [← hD]; exact (part_lt hwq).2
      have hdg : 0 ≤ digit (letN T LO WQ) := by rw [letN_dig hwq]; omega
      have HNm := hid (fun X => rnumber_any ((T.drop LO).take WQ) X (by rw [List.length_take]; omega))
      have e2 := HPt.out LO HI
      rw [show HI - LO = WQ by omega] at e2
      rw [← e2, hD] at HNm
      have hext : (⟨#[48, 49, 50, 51, 52, 53, 54, 55, 56, 57, 97, 98, 99, 100, 101, 102]⟩ : ByteArray).extract (dig (letN T LO WQ)) (dig (letN T LO WQ) + 1) = ⟨#[letN T LO WQ]⟩ := lett_at _ hdg
      have HPs := hid (prefB_snoc hch)
      have hps : (prefB x.word j).size + (⟨#[letN T LO WQ]⟩ : ByteArray).size ≤ 9223372036854775807 := by
        have := prefB_size x.word j
        show _ + 1 ≤ _
        omega
      have HE := hid (And.intro (show IntKind.i64.wrap ((j : Int) * (WQ : Int)) = (M1 : Int) by rw [← Int.natCast_mul, hM1]; exact IntWalk.i64_in _ (by omega)) (And.intro (show IntKind.i64.wrap ((SB : Int) + (M1 : Int)) = (LO : Int) from (IntWalk.i64_in _ (by omega)).trans (by omega)) (show IntKind.i64.wrap ((LO : Int) + (WQ : Int)) = (HI : Int) from (IntWalk.i64_in _ (by omega)).trans (by omega))))
      clear hch hD hdg e2 hm hM1 hLO hHI hb64
      generalize dig (letN T LO WQ) = D at *
      generalize letN T LO WQ = ch at *
      generalize prefB x.word j = S1 at *
      generalize hS2 : prefB x.word (j + 1) = S2 at *
      have hv1 : (D : Int) + 1 ≤ 16 := by omega
      obtain ⟨e1, e2, e3⟩ := HE.out
      clear HE
      go_upto_region 8 with (go_at_call 66; refine (HNm.out _).mono ?_; rintro e w8 ⟨rfl, rfl⟩)
      clear e1 e2 e3 hHO hLH HNm
      go_wp2
      case roundEnd => exact ⟨⟨j + 1, hlt, by go_num, by rw [HPs.out, hS2]⟩, by simp [intOf]; omega⟩
    · obtain rfl : bl = j := by omega
      have HA := hid (show prefB x.word bl = x.word by rw [← hwsz, prefB_all])
      rw [HA.out]
      go_wp2
      go_ret2
      exact ⟨rfl, HB6.out⟩
set_option maxRecDepth 100000 in
set_option maxHeartbeats 4000000 in
theorem rStep_any (q bl I : Int) (v vc vo : Value) (rows : List (List Cl)) (n : Int) (c : List Ins) (o : List Int) (s k : Int) (w : World) (hM : MC w v rows) (hc : Sl 3 w vc c.length (icells c)) (ho : Sl 1 w vo o.length (ints o)) (hI64 : eErr q bl I rows = 0 → I ≤ 64) :
    Calls Tryz.prog 12 #[.agg #[.int .i64 q, .int .i64 bl, .int .i64 I, v], .agg #[.int .i64 n, vc, vo], .int .i64 s, .int .i64 k] w fun e w' => e = .returned (.tuple #[.int .i64 (stepV q bl I rows n c o s k).1, .string (stepV q bl I rows n c o s k).2.1, .int .i64 (stepV q bl I rows n c o s k).2.2]) ∧ Below w.heap.size w w' := by
  have HM := hid hM
  have HC := hid hc
  have HO := hid ho
  have HCk := hid (fun X h1 h2 h3 => rfit_any q bl I v vc vo rows n c o X h1 h2 h3 hI64)
  obtain ⟨am, cap, rfl, hm1, hm2⟩ := hM.slice
  by_cases hF : fitV q bl I rows n c o = 0
  · rw [hF] at HCk
    have hSv : stepV q bl I rows n c o s k = if s < 0 ∨ (rows.length : Int) ≤ s then (0, ⟨#[]⟩, 25) else if k < 0 ∨ I ≤ k then (0, ⟨#[]⟩, 2) else ((sayCl q.toNat bl.toNat I.toNat rows.length c o s.toNat k.toNat).st, (sayCl q.toNat bl.toNat I.toNat rows.length c o s.toNat k.toNat).word, 0) := by
      unfold stepV
      rw [if_neg (by simp [hF])]
    rw [hSv]
    clear hSv
    obtain ⟨q, bl, I, rfl, rfl, rfl, rfl, hFit⟩ := fitV_zero hF hI64
    simp only [Int.toNat_natCast]
    have hi64 := hFit.i64
    have hr64 := hFit.e.r64
    have HSt := hid (fun s k X h1 h2 h3 hs hk => rsay_any q bl I s k (.slice am rows.length cap) vc vo rows c o X h1 h2 h3 hFit hs hk)
    obtain ⟨ac, cc, rfl, _, hc1, hc2, _⟩ := hc
    obtain ⟨ao, co, rfl, _, ho1, ho2, _⟩ := ho
    clear hM hF hI64 hFit
    obtain ⟨NN, hNN⟩ : ∃ NN, wid rows.length + wid I = NN := ⟨_, rfl⟩
    rw [hNN] at HCk HSt ⊢
    clear hNN
    generalize rows.length = nr at *
    generalize c.length = CL at *
    generalize o.length = OL at *
    by_cases hs0 : s < 0
    · rw [if_pos (.inl hs0)]
      go_enter Tryz.func12, Tryz.ntmps12
      go_upto_region 1 with fail
      obtain ⟨w0, hw0⟩ : ∃ w0, (w.alloc (.cells #[.int .i64 (q : Int), .int .i64 (bl : Int), .int .i64 (I : Int), .slice am nr cap] 24)).alloc (.cells #[.int .i64 (NN : Int), .slice ac CL cc, .slice ao OL co] 28) = w0 := ⟨_, rfl⟩
      obtain ⟨hb0, hz0, c0, c1, c2, c3, p0, p1, p2⟩ := box2E hw0
      rw [hw0]
      have HB0 := hid hb0
      clear hw0 hb0 hz0
      go_wp2_with (go_at_call 37; refine (HCk.out _ (HM.out.below HB0.out) (HC.out.below HB0.out) (HO.out.below HB0.out)).mono ?_; rintro e w1 ⟨rfl, hb1⟩; have HB1 := hid (bel_step HB0.out hb1); have c0 := keeps hb1 c0; have c1 := keeps hb1 c1; have c2 := keeps hb1 c2; have c3 := keeps hb1 c3; have p0 := keeps hb1 p0; have p1 := keeps hb1 p1; have p2 := keeps hb1 p2; clear hb1)
      go_ret3
      exact ⟨rfl, HB1.out⟩
    by_cases hs1 : (nr : Int) ≤ s
    · rw [if_pos (.inr hs1)]
      go_enter Tryz.func12, Tryz.ntmps12
      go_upto_region 1 with fail
      obtain ⟨w0, hw0⟩ : ∃ w0, (w.alloc (.cells #[.int .i64 (q : Int), .int .i64 (bl : Int), .int .i64 (I : Int), .slice am nr cap] 24)).alloc (.cells #[.int .i64 (NN : Int), .slice ac CL cc, .slice ao OL co] 28) = w0 := ⟨_, rfl⟩
      obtain ⟨hb0, hz0, c0, c1, c2, c3, p0, p1, p2⟩ := box2E hw0
      rw [hw0]
      have HB0 := hid hb0
      clear hw0 hb0 hz0
      go_wp2_with (go_at_call 37; refine (HCk.out _ (HM.out.below HB0.out) (HC.out.below HB0.out) (HO.out.below HB0.out)).mono ?_; rintro e w1 ⟨rfl, hb1⟩; have HB1 := hid (bel_step HB0.out hb1); have c0 := keeps hb1 c0; have c1 := keeps hb1 c1; have c2 := keeps hb1 c2; have c3 := keeps hb1 c3; have p0 := keeps hb1 p0; have p1 := keeps hb1 p1; have p2 := keeps hb1 p2; clear hb1)
      go_ret3
      exact ⟨rfl, HB1.out⟩
    rw [if_neg (fun h => h.elim hs0 hs1)]
    by_cases hk0 : k < 0
    · rw [if_pos (.inl hk0)]
      go_enter Tryz.func12, Tryz.ntmps12
      go_upto_region 1 with fail
      obtain ⟨w0, hw0⟩ : ∃ w0, (w.alloc (.cells #[.int .i64 (q : Int), .int .i64 (bl : Int), .int .i64 (I : Int), .slice am nr cap] 24)).alloc (.cells #[.int .i64 (NN : Int), .slice ac CL cc, .slice ao OL co] 28) = w0 := ⟨_, rfl⟩
      obtain ⟨hb0, hz0, c0, c1, c2, c3, p0, p1, p2⟩ := box2E hw0
      rw [hw0]
      have HB0 := hid hb0
      clear hw0 hb0 hz0
      go_wp2_with (go_at_call 37; refine (HCk.out _ (HM.out.below HB0.out) (HC.out.below HB0.out) (HO.out.below HB0.out)).mono ?_; rintro e w1 ⟨rfl, hb1⟩; have HB1 := hid (bel_step HB0.out hb1); have c0 := keeps hb1 c0; have c1 := keeps hb1 c1; have c2 := keeps hb1 c2; have c3 := keeps hb1 c3; have p0 := keeps hb1 p0; have p1 := keeps hb1 p1; have p2 := keeps hb1 p2; clear hb1)
      go_ret3
      exact ⟨rfl, HB1.out⟩
    by_cases hk1 : (I : Int) ≤ k
    · rw [if_pos (.inr hk1)]
      go_enter Tryz.func12, Tryz.ntmps12
      go_upto_region 1 with fail
      obtain ⟨w0, hw0⟩ : ∃ w0, (w.alloc (.cells #[.int .i64 (q : Int), .int .i64 (bl : Int), .int .i64 (I : Int), .slice am nr cap] 24)).alloc (.cells #[.int .i64 (NN : Int), .slice ac CL cc, .slice ao OL co] 28) = w0 := ⟨_, rfl⟩
      obtain ⟨hb0, hz0, c0, c1, c2, c3, p0, p1, p2⟩ := box2E hw0
      rw [hw0]
      have HB0 := hid hb0
      clear hw0 hb0 hz0
      go_wp2_with (go_at_call 37; refine (HCk.out _ (HM.out.below HB0.out) (HC.out.below HB0.out) (HO.out.below HB0.out)).mono ?_; rintro e w1 ⟨rfl, hb1⟩; have HB1 := hid (bel_step HB0.out hb1); have c0 := keeps hb1 c0; have c1 := keeps hb1 c1; have c2 := keeps hb1 c2; have c3 := keeps hb1 c3; have p0 := keeps hb1 p0; have p1 := keeps hb1 p1; have p2 := keeps hb1 p2; clear hb1)
      go_ret3
      exact ⟨rfl, HB1.out⟩
    rw [if_neg (fun h => h.elim hk0 hk1)]
    obtain ⟨s, rfl⟩ : ∃ s' : Nat, s = (s' : Int) := ⟨s.toNat, by omega⟩
    obtain ⟨k, rfl⟩ : ∃ k' : Nat, k = (k' : Int) := ⟨k.toNat, by omega⟩
    simp only [Int.toNat_natCast]
    have HSs := hid (fun X h1 h2 h3 => HSt.out s k X h1 h2 h3 (by omega) (by omega))
    clear HSt
    generalize sayCl q bl I nr c o s k = x at *
    go_enter Tryz.func12, Tryz.ntmps12
    go_upto_region 1 with fail
    obtain ⟨w0, hw0⟩ : ∃ w0, (w.alloc (.cells #[.int .i64 (q : Int), .int .i64 (bl : Int), .int .i64 (I : Int), .slice am nr cap] 24)).alloc (.cells #[.int .i64 (NN : Int), .slice ac CL cc, .slice ao OL co] 28) = w0 := ⟨_, rfl⟩
    obtain ⟨hb0, hz0, c0, c1, c2, c3, p0, p1, p2⟩ := box2E hw0
    rw [hw0]
    have HB0 := hid hb0
    clear hw0 hb0 hz0
    go_wp2_with (first
      | (go_at_call 37; refine (HCk.out _ (HM.out.below HB0.out) (HC.out.below HB0.out) (HO.out.below HB0.out)).mono ?_; rintro e w1 ⟨rfl, hb1⟩; have HB1 := hid (bel_step HB0.out hb1); have c0 := keeps hb1 c0; have c1 := keeps hb1 c1; have c2 := keeps hb1 c2; have c3 := keeps hb1 c3; have p0 := keeps hb1 p0; have p1 := keeps hb1 p1; have p2 := keeps hb1 p2; clear hb1)
      | (go_at_call 38; refine (HSs.out _ (HM.out.below HB1.out) (HC.out.below HB1.out) (HO.out.below HB1.out)).mono ?_; rintro e w2 ⟨rfl, hb2⟩; have HB2 := hid (bel_step HB1.out hb2); clear hb2))
    go_ret3
    exact ⟨rfl, HB2.out⟩
  · have hSv : stepV q bl I rows n c o s k = (0, ⟨#[]⟩, fitV q bl I rows n c o) := by
      unfold stepV
      rw [if_pos hF]
    rw [hSv]
    obtain ⟨ac, cc, rfl, _, hc1, hc2, _⟩ := hc
    obtain ⟨ao, co, rfl, _, ho1, ho2, _⟩ := ho
    have hF2 : (fitV q bl I rows n c o != 0) = true := by simp [hF]
    clear hM hI64 hSv hF
    generalize fitV q bl I rows n c o = fv at *
    generalize rows.length = nr at *
    generalize c.length = CL at *
    generalize o.length = OL at *
    go_enter Tryz.func12, Tryz.ntmps12
    go_upto_region 1 with fail
    obtain ⟨w0, hw0⟩ : ∃ w0, (w.alloc (.cells #[.int .i64 q, .int .i64 bl, .int .i64 I, .slice am nr cap] 24)).alloc (.cells #[.int .i64 n, .slice ac CL cc, .slice ao OL co] 28) = w0 := ⟨_, rfl⟩
    obtain ⟨hb0, hz0, c0, c1, c2, c3, p0, p1, p2⟩ := box2E hw0
    rw [hw0]
    have HB0 := hid hb0
    clear hw0 hb0 hz0
    go_wp2_with (go_at_call 37; refine (HCk.out _ (HM.out.below HB0.out) (HC.out.below HB0.out) (HO.out.below HB0.out)).mono ?_; rintro e w1 ⟨rfl, hb1⟩; have HB1 := hid (bel_step HB0.out hb1); have c0 := keeps hb1 c0; have c1 := keeps hb1 c1; have c2 := keeps hb1 c2; have c3 := keeps hb1 c3; have p0 := keeps hb1 p0; have p1 := keeps hb1 p1; have p2 := keeps hb1 p2; clear hb1)
    go_ret3
    exact ⟨rfl, HB1.out⟩
end Go.Proofs.YtcdfghogmdhfcaaGreatDoor
