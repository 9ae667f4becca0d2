/-
  integer.Neg, Sub and Compare over numbers of up to 200000 digits.
  No condition beyond that size.
-/
import Derived.Test.YtppflnkadjddiaaIntOps
namespace Go.Proofs.Ytppflnkadjddiaa
open Go.RowKit
set_option linter.unusedVariables false

theorem neg_img (n : Int) : nsg (!isg n) n.natAbs = isg (-n) ∧ nmg n.natAbs = img (-n) := by
  apply nsg_img
  unfold isg
  by_cases h : n < 0
  · simp [h]; omega
  · simp [h]; omega

set_option maxRecDepth 100000 in
set_option maxHeartbeats 2000000 in
theorem negI_any (a : Int) (w : World) (ha : Fits a) :
    Calls Try.prog 78 #[.agg #[.bool (isg a), .string (img a)]] w fun e w' => e = .returned (.agg #[.bool (isg (-a)), .string (img (-a))]) ∧ Below w.heap.size w w' := by
  have ha1 := ha.size
  have hda := ha.digs
  have HI := hid (neg_img a)
  clear ha
  obtain ⟨W, hW⟩ : ∃ W, (w.alloc (.cells #[.bool (isg a), .string (img a)] 41)).alloc (.cells #[.bool false, .string ⟨#[]⟩] 41) = W := ⟨_, rfl⟩
  have e1 : W.cell? ⟨w.heap.size, 0, none⟩ = some (.bool (isg a)) := by rw [← hW]; simp [go_sem]
  have e2 : W.cell? ⟨w.heap.size, 1, none⟩ = some (.string (img a)) := by rw [← hW]; simp [go_sem]
  have c5 : W.cell? ⟨w.heap.size + 1, 0, none⟩ = some (.bool false) := by rw [← hW]; simp [go_sem]
  have c6 : W.cell? ⟨w.heap.size + 1, 1, none⟩ = some (.string ⟨#[]⟩) := by rw [← hW]; simp [go_sem]
  have f5 : W.frozen? ⟨w.heap.size + 1, 0, none⟩ = false := by rw [← hW]; simp [go_sem]
  have f6 : W.frozen? ⟨w.heap.size + 1, 1, none⟩ = false := by rw [← hW]; simp [go_sem]
  have hbel : Below w.heap.size w W := by
    rw [← hW]
    exact ((Below.refl _ _).alloc (Nat.le_refl _) _).alloc (by simp) _
  have HW := hid hW
  clear hW
  go_enter Try.func78, Try.ntmps78
  go_upto_region 1 with fail
  rw [HW.out]
  go_region_held3 (fun w' => w'.cell? ⟨w.heap.size, 0, none⟩ = some (.bool (isg a)) ∧ w'.cell? ⟨w.heap.size, 1, none⟩ = some (.string (img a)))
    (first | exact ⟨e1, e2⟩ | (rw [World.cell?_setCell_far _ _ _ _ (show w.heap.size + 1 ≠ w.heap.size by omega), World.cell?_setCell_far _ _ _ _ (show w.heap.size + 1 ≠ w.heap.size by omega), World.cell?_setCell_far _ _ _ _ (show w.heap.size + 1 ≠ w.heap.size by omega), World.cell?_setCell_far _ _ _ _ (show w.heap.size + 1 ≠ w.heap.size by omega)]; exact ⟨e1, e2⟩) | go_keep)
    (first
      | (go_at_call 67; refine (digitsI_any _ _ (by first | assumption)).mono ?_; rintro e w' ⟨⟨v', rfl, hN⟩, hb⟩; have hbel := bel_step hbel hb; have e1 := keeps hb e1; have e2 := keeps hb e2; have f5 := keeps_frozen hb c5 f5; have f6 := keeps_frozen hb c6 f6; have c5 := keeps hb c5; have c6 := keeps hb c6)
      | (go_at_call 51; refine (number_any _ _ _ _ hN (digs_u32 _) (by omega)).mono ?_; rintro e w' ⟨rfl, hb⟩; have hbel := bel_step hbel hb; have e1 := keeps hb e1; have e2 := keeps hb e2; have f5 := keeps_frozen hb c5 f5; have f6 := keeps_frozen hb c6 f6; have c5 := keeps hb c5; have c6 := keeps hb c6))
  all_goals go_wp2_with fail
  refine bodyPost_ret (v := .agg #[.bool (isg (-a)), .string (img (-a))]) ?_ rfl ⟨rfl, ?_⟩
  · simp [results, Try.results78, go_sem, c5, c6]
    rw [natv_digs]
    exact HI.out
  · exact (hbel.setCell (by simp) _).setCell (by simp) _
theorem fits_neg {a : Int} (h : Fits a) : Fits (-a) := by
  unfold Fits at h ⊢
  rwa [Int.natAbs_neg]

set_option maxRecDepth 100000 in
set_option maxHeartbeats 2000000 in
theorem subI_any (a b : Int) (w : World) (ha : Fits a) (hb : Fits b) :
    Calls Try.prog 52 #[.agg #[.bool (isg a), .string (img a)], .agg #[.bool (isg b), .string (img b)]] w fun e w' => e = .returned (.agg #[.bool (isg (a - b)), .string (img (a - b))]) ∧ Below w.heap.size w w' := by
  have HA := hid ha
  have HB := hid hb
  have HNB := hid (fits_neg hb)
  clear ha hb
  obtain ⟨W, hW⟩ : ∃ W, ((w.alloc (.cells #[.bool (isg a), .string (img a)] 41)).alloc (.cells #[.bool (isg b), .string (img b)] 41)).alloc (.cells #[.bool false, .string ⟨#[]⟩] 41) = W := ⟨_, rfl⟩
  have e1 : W.cell? ⟨w.heap.size, 0, none⟩ = some (.bool (isg a)) := by rw [← hW]; simp [go_sem]
  have e2 : W.cell? ⟨w.heap.size, 1, none⟩ = some (.string (img a)) := by rw [← hW]; simp [go_sem]
  have e3 : W.cell? ⟨w.heap.size + 1, 0, none⟩ = some (.bool (isg b)) := by rw [← hW]; simp [go_sem]
  have e4 : W.cell? ⟨w.heap.size + 1, 1, none⟩ = some (.string (img b)) := by rw [← hW]; simp [go_sem]
  have c5 : W.cell? ⟨w.heap.size + 1 + 1, 0, none⟩ = some (.bool false) := by rw [← hW]; simp [go_sem]
  have c6 : W.cell? ⟨w.heap.size + 1 + 1, 1, none⟩ = some (.string ⟨#[]⟩) := by rw [← hW]; simp [go_sem]
  have f5 : W.frozen? ⟨w.heap.size + 1 + 1, 0, none⟩ = false := by rw [← hW]; simp [go_sem]
  have f6 : W.frozen? ⟨w.heap.size + 1 + 1, 1, none⟩ = false := by rw [← hW]; simp [go_sem]
  have hbel : Below w.heap.size w W := by
    rw [← hW]
    exact (((Below.refl _ _).alloc (Nat.le_refl _) _).alloc (by simp) _).alloc (by simp; omega) _
  have HW := hid hW
  clear hW
  go_enter Try.func52, Try.ntmps52
  go_upto_region 1 with fail
  rw [HW.out]
  go_region_held3 (fun w' => w'.cell? ⟨w.heap.size, 0, none⟩ = some (.bool (isg a)) ∧ w'.cell? ⟨w.heap.size, 1, none⟩ = some (.string (img a)) ∧ w'.cell? ⟨w.heap.size + 1, 0, none⟩ = some (.bool (isg b)) ∧ w'.cell? ⟨w.heap.size + 1, 1, none⟩ = some (.string (img b)))
    (first | exact ⟨e1, e2, e3, e4⟩ | (rw [World.cell?_setCell_far _ _ _ _ (show w.heap.size + 1 + 1 ≠ w.heap.size by omega), World.cell?_setCell_far _ _ _ _ (show w.heap.size + 1 + 1 ≠ w.heap.size by omega), World.cell?_setCell_far _ _ _ _ (show w.heap.size + 1 + 1 ≠ w.heap.size by omega), World.cell?_setCell_far _ _ _ _ (show w.heap.size + 1 + 1 ≠ w.heap.size by omega), World.cell?_setCell_far _ _ _ _ (show w.heap.size + 1 + 1 ≠ w.heap.size + 1 by omega), World.cell?_setCell_far _ _ _ _ (show w.heap.size + 1 + 1 ≠ w.heap.size + 1 by omega), World.cell?_setCell_far _ _ _ _ (show w.heap.size + 1 + 1 ≠ w.heap.size + 1 by omega), World.cell?_setCell_far _ _ _ _ (show w.heap.size + 1 + 1 ≠ w.heap.size + 1 by omega)]; exact ⟨e1, e2, e3, e4⟩) | go_keep)
    (first
      | (go_at_call 78; refine (negI_any b _ HB.out).mono ?_; rintro e w' ⟨rfl, hb⟩; have hbel := bel_step hbel hb; have e1 := keeps hb e1; have e2 := keeps hb e2; have e3 := keeps hb e3; have e4 := keeps hb e4; have f5 := keeps_frozen hb c5 f5; have f6 := keeps_frozen hb c6 f6; have c5 := keeps hb c5; have c6 := keeps hb c6)
      | (go_at_call 47; refine (addI_any a (-b) _ HA.out HNB.out).mono ?_; rintro e w' ⟨rfl, hb⟩; have hbel := bel_step hbel hb; have e1 := keeps hb e1; have e2 := keeps hb e2; have e3 := keeps hb e3; have e4 := keeps hb e4; have f5 := keeps_frozen hb c5 f5; have f6 := keeps_frozen hb c6 f6; have c5 := keeps hb c5; have c6 := keeps hb c6))
  all_goals go_wp2_with fail
  refine bodyPost_ret (v := .agg #[.bool (isg (a - b)), .string (img (a - b))]) ?_ rfl ⟨rfl, ?_⟩
  · simp [results, Try.results52, go_sem, c5, c6, Int.sub_eq_add_neg]
  · exact (hbel.setCell (by simp; omega) _).setCell (by simp; omega) _

def cmpI (a b : Int) : Int := if a < b then -1 else if a = b then 0 else 1
theorem img_empty {n : Int} : (img n).toList = [] ↔ n = 0 := by
  constructor
  · intro h
    by_cases h0 : n = 0
    · exact h0
    · exfalso
      have h1 : (img n).data.toList = [] := by
        rwa [ByteArray.toList_eq] at h
      exact bytesBE_ne (n := n.natAbs) (by omega) (by simpa [img, nmg] using h1)
  · rintro rfl
    rw [ByteArray.toList_eq]
    simp [img, nmg, bytesBE_zero]

set_option maxRecDepth 100000 in
set_option maxHeartbeats 2000000 in
theorem compareI_any (a b : Int) (w : World) (ha : Fits a) (hb : Fits b) :
    Calls Try.prog 26 #[.agg #[.bool (isg a), .string (img a)], .agg #[.bool (isg b), .string (img b)]] w fun e w' => e = .returned (.int .i64 (cmpI a b)) ∧ Below w.heap.size w w' := by
  have HA := hid ha
  have HB := hid hb
  clear ha hb
  have hbw := Below.refl w.heap.size w
  by_cases h1 : a < b
  · have e1 : isg (a - b) = true := by simp [isg]; omega
    have HR := hid (show cmpI a b = -1 by rw [cmpI, if_pos h1])
    clear h1
    go_enter Try.func26, Try.ntmps26
    go_wp2_with (go_at_call 52; refine (subI_any a b _ HA.out HB.out).mono ?_; rintro e w' ⟨rfl, hb⟩)
    go_ret
    exact ⟨ret_int HR.out.symm, ((((Below.refl _ _).alloc (Nat.le_refl _) _).alloc (by simp) _).trans (hb.mono (by simp; omega))).alloc (by have := hb.size; simp at this; omega) _⟩
  · have e1 : isg (a - b) = false := by simp [isg]; omega
    by_cases h2 : a = b
    · have e2 : (img (a - b)).toList = [] := img_empty.2 (by omega)
      have e3 : (img (a - b)).toList.isEmpty = true := by rw [e2]; rfl
      have HR := hid (show cmpI a b = 0 by rw [cmpI, if_neg h1, if_pos h2])
      clear h1 h2 e2
      go_enter Try.func26, Try.ntmps26
      go_wp2_with (go_at_call 52; refine (subI_any a b _ HA.out HB.out).mono ?_; rintro e w' ⟨rfl, hb⟩)
      go_ret
      exact ⟨ret_int HR.out.symm, ((((Below.refl _ _).alloc (Nat.le_refl _) _).alloc (by simp) _).trans (hb.mono (by simp; omega))).alloc (by have := hb.size; simp at this; omega) _⟩
    · have e3 : (img (a - b)).toList.isEmpty = false := by rw [List.isEmpty_eq_false_iff]; intro h; have := img_empty.1 h; omega
      have HR := hid (show cmpI a b = 1 by rw [cmpI, if_neg h1, if_neg h2])
      clear h1 h2
      go_enter Try.func26, Try.ntmps26
      go_wp2_with (go_at_call 52; refine (subI_any a b _ HA.out HB.out).mono ?_; rintro e w' ⟨rfl, hb⟩)
      go_ret
      exact ⟨ret_int HR.out.symm, ((((Below.refl _ _).alloc (Nat.le_refl _) _).alloc (by simp) _).trans (hb.mono (by simp; omega))).alloc (by have := hb.size; simp at this; omega) _⟩
end Go.Proofs.Ytppflnkadjddiaa
