/-
  groovelaw45.machine: the parser of a code that this layer takes.
  No condition beyond the words lying in a slice.
-/
import Derived.Test.YtalklhjmnoodeaaRBuild
import Derived.Test.YtalklhjmnoodeaaGreat
namespace Go.Proofs.Ytalklhjmnoodeaa
open Go.RowKit Go.Deep
set_option linter.unusedVariables false

def machB (q : Int) (ws : List ByteArray) : Bool := !greatB ws && decide (aErr q ws = 0) && decide (sizeW ws ≤ 16)
def MPost (q : Int) (ws : List ByteArray) (w : World) (e : Ending) (w' : World) : Prop :=
  (machB q ws = false ∧ (∃ (a : Int) (aS aN aE : Option Addr) (nS cS nN cN nE cE : Nat), e = .returned (.tuple #[.agg #[.int .i64 a, .slice aS nS cS, .slice aN nN cN, .slice aE nE cE], .bool false])) ∧ Below w.heap.size w w') ∨
  (machB q ws = true ∧ ∃ vS vN vE, e = .returned (.tuple #[.agg #[.int .i64 q, vS, vN, vE], .bool true]) ∧ PRes w' w.heap.size vS vN vE (sizeW ws) q.toNat (stW ws) (nxI ws) (emI ws) ∧ Below w.heap.size w w')
theorem machB_true {q : Int} {ws : List ByteArray} (h : machB q ws = true) : aErr q ws = 0 ∧ sizeW ws ≤ 16 := by
  simp only [machB, Bool.and_eq_true, decide_eq_true_eq] at h
  exact ⟨h.1.2, h.2⟩

set_option maxRecDepth 100000 in
set_option maxHeartbeats 2000000 in
theorem mach_any (q : Int) (v : Value) (ws : List ByteArray) (w : World) (hl : Sl 1 w v ws.length (strs ws)) :
    Calls Try.prog 19 #[.agg #[.int .i64 q, v]] w (MPost q ws w) := by
  have HL := hid hl
  have HBd := hid (fun X h => build_any q v ws X h)
  have HAu := hid (fun X h => auto_any q v ws X h)
  have HGr := hid (fun X h => great_any q v ws X h)
  obtain ⟨ao, cap, rfl, _, hl1, hl2, hl3⟩ := hl
  clear hl3
  go_enter Try.func19, Try.ntmps19
  go_upto_region 1 with fail
  obtain ⟨w0, hw0⟩ : ∃ w0, (w.alloc (.cells #[.int .i64 q, .slice ao ws.length cap] 24)).alloc (.cells #[.int .i64 0, .slice none 0 0, .slice none 0 0, .slice none 0 0] 36) = w0 := ⟨_, rfl⟩
  obtain ⟨hb0, c0, c1, hr⟩ := boxed2 hw0
  rw [hw0]
  have HB0 := hid hb0
  clear hw0 hb0
  cases hg : greatB ws
  · rw [hg] at HGr
    go_upto_region 3 with (go_at_call 35; refine (HGr.out _ (HL.out.below HB0.out)).mono ?_; rintro e wg ⟨rfl, hbg⟩; have HBg := hid (bel_step HB0.out hbg); have c0 := keeps hbg c0; have c1 := keeps hbg c1; have hr := row_below hr hbg)
    by_cases hA : aErr q ws = 0
    · have hB := aErr_b hA
      have hA2 : (aErr q ws != 0) = false := by simp [hA]
      go_upto_region 4 with (go_at_call 46; refine (HAu.out _ (HL.out.below HBg.out)).mono ?_; rintro e w1 ⟨⟨a, ab, an, ac, rfl⟩, hb1⟩; rw [hA]; have HB1 := hid (bel_step HBg.out hb1); have c0 := keeps hb1 c0; have c1 := keeps hb1 c1; have hr := row_below hr hb1)
      obtain ⟨wa, hwa⟩ : ∃ wa, w1.alloc (.cells #[.int .i64 a, .slice ab an ac] 75) = wa := ⟨_, rfl⟩
      have hba : Below w1.heap.size w1 wa := by rw [← hwa]; exact bel_alloc _ _
      rw [hwa]
      have HBa := hid (bel_step HB1.out hba)
      have c0 := keeps hba c0
      have c1 := keeps hba c1
      have hr := row_below hr hba
      clear hwa hba hb1 HB1 HAu
      go_upto_region 7 with (go_at_call 47; refine (HBd.out _ (HL.out.below HBa.out)).mono ?_; rintro e w2 (⟨hne, _⟩ | ⟨_, vS, vN, vE, rfl, hres, hb2⟩); (exact absurd hB hne); have HB2 := hid (bel_step HBa.out hb2); have HRes := hid hres; obtain ⟨aS, cS, aN, cN, aE, cE, rfl, rfl, rfl⟩ := hres.slices; have c0 := keeps hb2 c0; have c1 := keeps hb2 c1; have hra := hr.lt; have hr := row_below hr hb2)
      obtain ⟨wp, hwp⟩ : ∃ wp, w2.alloc (.cells #[.int .i64 q, .slice aS (sizeW ws) cS, .slice aN (sizeW ws) cN, .slice aE (sizeW ws) cE] 36) = wp := ⟨_, rfl⟩
      obtain ⟨hbp, p0, p1, p2, p3⟩ := boxP hwp
      rw [hwp]
      have HBp := hid (bel_step HB2.out hbp)
      have hr := row_below hr hbp
      have HRp := hid (HRes.out.keep hbp)
      obtain ⟨⟨q0, q1, q2, q3⟩, f0, f1, f2, f3⟩ := zero4 hr
      have hsz2 := hb2.size
      have hgn1 : ¬ w2.heap.size = w.heap.size + 1 := by omega
      have hgn2 : ¬ w.heap.size + 1 = w2.heap.size := by omega
      clear hsz2 hwp hbp hb2 HB2 HBa HBd c0 c1 hr hres HRes
      generalize w2.heap.size = g at *
      by_cases h16 : sizeW ws ≤ 16
      · have HM := hid (show machB q ws = true by simp [machB, hg, hA, h16])
        go_upto_region 7 with fail
        go_region
        go_wp2
        refine bodyPost_ret (v := .tuple #[.agg #[.int .i64 q, .slice aS (sizeW ws) cS, .slice aN (sizeW ws) cN, .slice aE (sizeW ws) cE], .bool true]) ?_ rfl (.inr ⟨HM.out, _, _, _, rfl, ?_, ?_⟩)
        · simp [results, Try.results19, go_sem, q0, q1, q2, q3]; omega
        · exact (((((HRp.out.set (a := ⟨w.heap.size + 1, 0, none⟩) hra _).set (a := ⟨w.heap.size + 1, 1, none⟩) hra _).set (a := ⟨w.heap.size + 1, 2, none⟩) hra _).set (a := ⟨w.heap.size + 1, 3, none⟩) hra _).base (show w.heap.size ≤ wa.heap.size by omega)).keep (below_drewN (Below.refl _ _) 1)
        · exact below_drewN (set4_below HBp.out (show w.heap.size ≤ w.heap.size + 1 by omega) _ _ _ _) 1
      · have HM := hid (show machB q ws = false by simp [machB, h16])
        go_upto_region 7 with fail
        go_region
        go_wp2
        refine bodyPost_ret (v := .tuple #[.agg #[.int .i64 q, .slice aS (sizeW ws) cS, .slice aN (sizeW ws) cN, .slice aE (sizeW ws) cE], .bool false]) ?_ rfl (.inl ⟨HM.out, ⟨_, _, _, _, _, _, _, _, _, _, rfl⟩, ?_⟩)
        · simp [results, Try.results19, go_sem, q0, q1, q2, q3]; omega
        · exact below_drewN (set4_below HBp.out (show w.heap.size ≤ w.heap.size + 1 by omega) _ _ _ _) 1
    · have HM := hid (show machB q ws = false by simp [machB, hA])
      have hA2 : (aErr q ws != 0) = true := by simp [hA]
      go_upto_region 4 with (go_at_call 46; refine (HAu.out _ (HL.out.below HBg.out)).mono ?_; rintro e w1 ⟨⟨a, ab, an, ac, rfl⟩, hb1⟩; have HB1 := hid (bel_step HBg.out hb1); have hr := row_below hr hb1)
      obtain ⟨wa, hwa⟩ : ∃ wa, w1.alloc (.cells #[.int .i64 a, .slice ab an ac] 75) = wa := ⟨_, rfl⟩
      have hba : Below w1.heap.size w1 wa := by rw [← hwa]; exact bel_alloc _ _
      rw [hwa]
      have HBa := hid (bel_step HB1.out hba)
      have hr := row_below hr hba
      obtain ⟨⟨q0, q1, q2, q3⟩, f0, f1, f2, f3⟩ := zero4 hr
      clear hwa hba hb1 HB1 HAu hr
      generalize aErr q ws = E at *
      go_wp2
      refine bodyPost_ret (v := .tuple #[nilP, .bool false]) ?_ rfl (.inl ⟨HM.out, ⟨_, _, _, _, _, _, _, _, _, _, rfl⟩, ?_⟩)
      · simp [results, Try.results19, go_sem, nilP, q0, q1, q2, q3]
      · exact set4_below HBa.out (by omega) _ _ _ _
  · rw [hg] at HGr
    have HM := hid (show machB q ws = false by simp [machB, hg])
    go_upto_region 2 with (go_at_call 35; refine (HGr.out _ (HL.out.below HB0.out)).mono ?_; rintro e wg ⟨rfl, hbg⟩; have HBg := hid (bel_step HB0.out hbg); have hr := row_below hr hbg)
    obtain ⟨⟨q0, q1, q2, q3⟩, f0, f1, f2, f3⟩ := zero4 hr
    go_wp2
    refine bodyPost_ret (v := .tuple #[nilP, .bool false]) ?_ rfl (.inl ⟨HM.out, ⟨_, _, _, _, _, _, _, _, _, _, rfl⟩, ?_⟩)
    · simp [results, Try.results19, go_sem, nilP, q0, q1, q2, q3]
    · exact set4_below HBg.out (by omega) _ _ _ _
end Go.Proofs.Ytalklhjmnoodeaa
