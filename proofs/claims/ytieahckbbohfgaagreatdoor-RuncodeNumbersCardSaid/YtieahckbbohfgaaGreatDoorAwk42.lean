/-
  groovelaw42.awake: the chapter's examples hold.
  The library's tables lie in their variables.
-/
import Derived.Test.YtieahckbbohfgaaGreatDoorGamma
import Derived.Test.YtieahckbbohfgaaGreatDoorSlices
namespace Go.Proofs.YtieahckbbohfgaaGreatDoor
open Go.RowKit
set_option linter.unusedVariables false

theorem golV_ex : golV 3 4 = .tuple #[.string ⟨#[49, 48, 49, 48]⟩, .int .i64 0] := by kernel_rfl
theorem gamW_ex : strW (gamW 5) = ⟨#[48, 48, 49, 48, 49]⟩ := by kernel_rfl
theorem runsB_ex : runsB ⟨#[48, 48, 49, 48, 49]⟩ = [2, 1, 0] := by kernel_rfl
theorem partsB_ex : (partsB ⟨#[48, 48, 49, 48, 49]⟩).length = Lib.countB ⟨#[48, 48, 49, 48, 49]⟩ one1 + 1 ∧ Lib.countB ⟨#[48, 48, 49, 48, 49]⟩ one1 ≤ 1000000 ∧ (∀ x ∈ partsB ⟨#[48, 48, 49, 48, 49]⟩, x.size ≤ 1000000) ∧ wordErr 2 ⟨#[48, 48, 49, 48, 49]⟩ = 0 := by
  decide +kernel
theorem sl_alloc (w : World) (sz n : Nat) (cs : Array Value) (e : TypeId) (h : cs.size = n * sz) (hn : n ≤ 1000) : Sl sz (w.alloc (.cells cs e)) (.slice (some ⟨w.heap.size, 0, none⟩) n n) n cs.toList := by
  refine ⟨_, n, rfl, by simpa using h, Nat.le_refl _, by omega, .inr ⟨w.heap.size, 0, rfl, fun j x hj => ?_⟩⟩
  rw [Nat.zero_add, Lib.cell_of_heap (heap_alloc_new w _)]
  simpa using hj
theorem low_ex : lowN 2 3 = 2 ∧ lowD 2 3 = 3 ∧ lowN 1 3 = 1 ∧ lowD 1 3 = 3 := by decide +kernel
theorem eq_words (v1 v2 : Value) (w : World) (h1 : Sl 1 w v1 4 (strs exW)) (h2 : Sl 1 w v2 4 (strs exW)) :
    Calls Tryz.prog 31 #[v1, v2] w fun e w' => e = .returned (.bool true) ∧ Below w.heap.size w w' := by
  refine (equalStrs_any v1 v2 exW exW w h1 h2).mono ?_
  rintro e w' ⟨rfl, hd⟩
  exact ⟨ret_bool ((eqb_iff _ _).2 rfl), hd.below _⟩
theorem eq_three (v1 v2 : Value) (w : World) (h1 : Sl 1 w v1 3 (ints [2, 1, 0])) (h2 : Sl 1 w v2 3 (ints [2, 1, 0])) :
    Calls Tryz.prog 19 #[v1, v2] w fun e w' => e = .returned (.bool true) ∧ Below w.heap.size w w' := by
  refine (equalInts_any v1 v2 [2, 1, 0] [2, 1, 0] w h1 h2).mono ?_
  rintro e w' ⟨rfl, hd⟩
  exact ⟨ret_bool ((eqb_iff _ _).2 rfl), hd.below _⟩
set_option maxRecDepth 100000 in
set_option maxHeartbeats 4000000 in
theorem awake42_any (m : Int) (w : World) (hT : TabAt 7 Lib.deBruijn64tab w) (hm : w.cell? ⟨0, 0, none⟩ = some (.int .i64 m)) :
    Calls Tryz.prog 9 #[] w fun e w' => e = .returned (.bool true) ∧ Below w.heap.size w w' := by
  have HGo := hid (fun X h => golomb_any 3 4 X (by decide) (by decide) (by decide) h)
  rw [golV_ex] at HGo
  have HGa := hid (fun X h => gamma_any 5 X (by decide) (by decide) h)
  rw [gamW_ex] at HGa
  have HRa := hid (fun X => lawratio_any 2 3 X (by decide) (by decide) (by decide))
  have HRb := hid (fun X => lawratio_any 1 3 X (by decide) (by decide) (by decide))
  rw [low_ex.1, low_ex.2.1] at HRa
  rw [low_ex.2.2.1, low_ex.2.2.2] at HRb
  unfold RV at HRa HRb
  have HRu := hid (fun X h => runs_any ⟨#[48, 48, 49, 48, 49]⟩ m X (by decide) h partsB_ex.2.2.2 partsB_ex.1 partsB_ex.2.1 partsB_ex.2.2.1)
  rw [runsB_ex] at HRu
  have HSl := hid (fun X => (show Sl 4 (X.alloc (.cells #[.bool false, .string (nmg 2), .bool false, .string (nmg 3), .bool false, .string (nmg 1), .bool false, .string (nmg 3)] 58)) (.slice (some ⟨X.heap.size, 0, none⟩) 2 2) exP.length (rcells exP) from sl_alloc X 4 2 _ _ rfl (by decide)))
  have HT := hid (fun X (h : Below w.heap.size w X) => tab_below hT h)
  have HM := hid hm
  clear hT hm
  generalize nmg 1 = m1 at *
  generalize nmg 2 = m2 at *
  generalize nmg 3 = m3 at *
  go_enter Tryz.func9, Tryz.ntmps9
  go_upto_region 4 with (first
    | (go_at_call 8; refine (HGo.out _ (HT.out _ (Below.refl _ _))).mono ?_; rintro e w1 ⟨rfl, hb1⟩; have HB1 := hid hb1; clear hb1)
    | (go_at_call 20; refine (HGa.out _ (HT.out _ HB1.out)).mono ?_; rintro e w2 ⟨rfl, hb2⟩; have HB2 := hid (bel_step HB1.out hb2); clear hb2)
    | (have _g := HB3.out; clear _g; go_at_call 30; refine (HRb.out _).mono ?_; rintro e w4 ⟨rfl, hb4⟩; have HB4 := hid (bel_step HB3.out hb4); clear hb4)
    | (go_at_call 30; refine (HRa.out _).mono ?_; rintro e w3 ⟨rfl, hb3⟩; have HB3 := hid (bel_step HB2.out hb3); clear hb3)
    | (go_at_call 29; refine (tunstall_ex _ _ (HSl.out _)).mono ?_; rintro e w5 ⟨u5, rfl, hs5, hb5⟩; have HS5 := hid hs5; have HB5 := hid (bel_step HB4.out ((bel_alloc w4 _).trans (hb5.mono (bel_alloc w4 _).size))); obtain ⟨au, cu, rfl, _⟩ := hs5; clear hb5))
  obtain ⟨w6, hw6⟩ : ∃ w6, w5.alloc (.cells #[.int .i64 2, .slice au 4 cu] 52) = w6 := ⟨_, rfl⟩
  have HS6 := hid (HS5.out.below (show Below w5.heap.size w5 w6 by rw [← hw6]; exact bel_alloc _ _))
  have HB6 := hid (bel_step HB5.out (show Below w5.heap.size w5 w6 by rw [← hw6]; exact bel_alloc _ _))
  have c1 : w6.cell? ⟨w5.heap.size, 1, none⟩ = some (.slice au 4 cu) := by rw [← hw6]; simp
  have HA4 := hid (fun X => (show Sl 1 (X.alloc (.cells #[.string ⟨#[49]⟩, .string ⟨#[48, 49]⟩, .string ⟨#[48, 48, 48]⟩, .string ⟨#[48, 48, 49]⟩] 9)) (.slice (some ⟨X.heap.size, 0, none⟩) 4 4) 4 (strs exW) from sl_alloc X 1 4 _ _ rfl (by decide)))
  have HA3 := hid (fun X => (show Sl 1 (X.alloc (.cells #[.int .i64 2, .int .i64 1, .int .i64 0] 3)) (.slice (some ⟨X.heap.size, 0, none⟩) 3 3) 3 (ints [2, 1, 0]) from sl_alloc X 1 3 _ _ rfl (by decide)))
  rw [hw6]
  clear hw6
  go_wp2_with (first
    | (go_at_call 15; refine (HRu.out _ (keeps HB6.out HM.out)).mono ?_; rintro e w7 ⟨u7, rfl, ho7, hb7⟩; obtain ⟨ar, cr, rfl⟩ := own_slice ho7; have HO7 := hid (Sl.of_owns ho7); have HS7 := hid (HS6.out.below hb7); have HB7 := hid (bel_step HB6.out hb7); have c1 := keeps hb7 c1; clear hb7 ho7)
    | (go_at_call 31; refine (eq_words _ _ _ (HS7.out.below (bel_alloc _ _)) (HA4.out _)).mono ?_; rintro e w8 ⟨rfl, hb8⟩; have HB8x := hid ((bel_alloc w7 _).trans (hb8.mono (bel_alloc w7 _).size)); have HO8 := hid (HO7.out.below HB8x.out); have HB8 := hid (bel_step HB7.out HB8x.out); clear hb8)
    | (go_at_call 19; refine (eq_three _ _ _ (HO8.out.below (bel_alloc _ _)) (HA3.out _)).mono ?_; rintro e w9 ⟨rfl, hb9⟩; have HB9 := hid (bel_step HB8.out ((bel_alloc w8 _).trans (hb9.mono (bel_alloc w8 _).size))); clear hb9))
  go_ret
  exact ⟨rfl, HB9.out⟩
end Go.Proofs.YtieahckbbohfgaaGreatDoor
