/-
  groovetop.top45Machine: the automaton of a maximal prefix code that is not too large, or none.
  No condition beyond the words lying in a slice.
-/
import Derived.Test.YtjcdddccnfiemaaDoorAutoM
import Derived.Test.YtjcdddccnfiemaaDoorGreat
import Derived.Test.YtjcdddccnfiemaaDoorRBuild
namespace Go.Proofs.YtjcdddccnfiemaaDoor
open Go.RowKit Go.Deep
set_option linter.unusedVariables false

/-- Is there a machine? -/
def topB (q : Int) (ws : List ByteArray) : Bool := !greatB ws && decide (q ≤ 8) && decide (aErr q ws = 0) && decide (sizeW ws ≤ 12)
theorem topB_true {q : Int} {ws : List ByteArray} (h : topB q ws = true) : aErr q ws = 0 ∧ sizeW ws ≤ 12 ∧ q ≤ 8 := by
  simp only [topB, Bool.and_eq_true, decide_eq_true_eq] at h
  exact ⟨h.1.2, h.2, h.1.1.2⟩
def TMPost (q : Int) (ws : List ByteArray) (w : World) (e : Ending) (w' : World) : Prop :=
  Below w.heap.size w w' ∧ ∃ (a a2 : Int) (aS aN aE aA : Option Addr) (nS cS nN cN nE cE nA cA : Nat), e = .returned (.tuple #[.agg #[.int .i64 a, .slice aS nS cS, .slice aN nN cN, .slice aE nE cE], .agg #[.int .i64 a2, .slice aA nA cA], .bool (topB q ws)]) ∧
    (topB q ws = true → a2 = q ∧ Mt w' (.slice aA nA cA) (sizeW ws) q.toNat (nxI ws))
/-- The argument and the results' boxes. -/
structure Box3 (w w' : World) : Prop where
  bel : Below w.heap.size w w'
  lo : w.heap.size + 3 ≤ w'.heap.size
  q0 : w'.cell? ⟨w.heap.size + 1, 0, none⟩ = some (.int .i64 0)
  q1 : w'.cell? ⟨w.heap.size + 1, 1, none⟩ = some (.slice none 0 0)
  q2 : w'.cell? ⟨w.heap.size + 1, 2, none⟩ = some (.slice none 0 0)
  q3 : w'.cell? ⟨w.heap.size + 1, 3, none⟩ = some (.slice none 0 0)
  r0 : w'.cell? ⟨w.heap.size + 2, 0, none⟩ = some (.int .i64 0)
  r1 : w'.cell? ⟨w.heap.size + 2, 1, none⟩ = some (.slice none 0 0)
  f0 : w'.frozen? ⟨w.heap.size + 1, 0, none⟩ = false
  f1 : w'.frozen? ⟨w.heap.size + 1, 1, none⟩ = false
  f2 : w'.frozen? ⟨w.heap.size + 1, 2, none⟩ = false
  f3 : w'.frozen? ⟨w.heap.size + 1, 3, none⟩ = false
  g0 : w'.frozen? ⟨w.heap.size + 2, 0, none⟩ = false
  g1 : w'.frozen? ⟨w.heap.size + 2, 1, none⟩ = false
theorem Box3.keep {w w' w2 : World} (h : Box3 w w') (hb : Below w'.heap.size w' w2) : Box3 w w2 :=
  ⟨bel_step h.bel hb, Nat.le_trans h.lo hb.size, keeps hb h.q0, keeps hb h.q1, keeps hb h.q2, keeps hb h.q3, keeps hb h.r0, keeps hb h.r1, keeps_frozen hb h.q0 h.f0, keeps_frozen hb h.q1 h.f1, keeps_frozen hb h.q2 h.f2, keeps_frozen hb h.q3 h.f3, keeps_frozen hb h.r0 h.g0, keeps_frozen hb h.r1 h.g1⟩
theorem boxed3 {w w0 : World} {q : Int} {v : Value} (h : ((w.alloc (.cells #[.int .i64 q, v] 24)).alloc (.cells #[.int .i64 0, .slice none 0 0, .slice none 0 0, .slice none 0 0] 27)).alloc (.cells #[.int .i64 0, .slice none 0 0] 29) = w0) :
    w0.cell? ⟨w.heap.size, 0, none⟩ = some (.int .i64 q) ∧ w0.cell? ⟨w.heap.size, 1, none⟩ = some v ∧ Box3 w w0 := by
  obtain ⟨hb, c0, c1, hr⟩ := boxed2 (w := w) (q := q) (v := v) rfl
  obtain ⟨⟨q0, q1, q2, q3⟩, f0, f1, f2, f3⟩ := zero4 hr
  have hs : ((w.alloc (.cells #[.int .i64 q, v] 24)).alloc (.cells #[.int .i64 0, .slice none 0 0, .slice none 0 0, .slice none 0 0] 27)).heap.size = w.heap.size + 2 := by simp
  generalize (w.alloc (.cells #[.int .i64 q, v] 24)).alloc (.cells #[.int .i64 0, .slice none 0 0, .slice none 0 0, .slice none 0 0] 27) = W at *
  have hba : Below W.heap.size W w0 := by rw [← h]; exact bel_alloc _ _
  refine ⟨keeps hba c0, keeps hba c1, bel_step hb hba, ?_, keeps hba q0, keeps hba q1, keeps hba q2, keeps hba q3, ?_, ?_, keeps_frozen hba q0 f0, keeps_frozen hba q1 f1, keeps_frozen hba q2 f2, keeps_frozen hba q3 f3, ?_, ?_⟩
  · rw [← h, World.size_alloc]; omega
  · rw [← h, ← hs]; simp
  · rw [← h, ← hs]; simp
  · rw [← h, ← hs]; exact frozen_laid (Below.refl _ _) 0
  · rw [← h, ← hs]; exact frozen_laid (Below.refl _ _) 1
theorem set6_below {w X : World} (h : Below w.heap.size w X) (a b c d e f : Value) : Below w.heap.size w ((((((X.setCell ⟨w.heap.size + 1, 0, none⟩ a).setCell ⟨w.heap.size + 1, 1, none⟩ b).setCell ⟨w.heap.size + 1, 2, none⟩ c).setCell ⟨w.heap.size + 1, 3, none⟩ d).setCell ⟨w.heap.size + 2, 0, none⟩ e).setCell ⟨w.heap.size + 2, 1, none⟩ f) :=
  (((set4_below h (by omega) a b c d).setCell (p := ⟨w.heap.size + 2, 0, none⟩) (by show w.heap.size ≤ w.heap.size + 2; omega) _).setCell (p := ⟨w.heap.size + 2, 1, none⟩) (by show w.heap.size ≤ w.heap.size + 2; omega) _)

set_option maxRecDepth 100000 in
set_option maxHeartbeats 4000000 in
theorem topm_any (q : Int) (v : Value) (ws : List ByteArray) (w : World) (hl : Sl 1 w v ws.length (strs ws)) :
    Calls Tryd.prog 4 #[.agg #[.int .i64 q, v]] w (TMPost q ws w) := by
  have HL := hid hl
  have HBd := hid (fun X h => build_any q v ws X h)
  have HAu := hid (fun X h => autom_any q v ws X h)
  have HGr := hid (fun X h => great_any q v ws X h)
  obtain ⟨ao, cap, rfl, _, hl1, hl2, hl3⟩ := hl
  clear hl3
  go_enter Tryd.func4, Tryd.ntmps4
  go_upto_region 1 with fail
  obtain ⟨w0, hw0⟩ : ∃ w0, ((w.alloc (.cells #[.int .i64 q, .slice ao ws.length cap] 24)).alloc (.cells #[.int .i64 0, .slice none 0 0, .slice none 0 0, .slice none 0 0] 27)).alloc (.cells #[.int .i64 0, .slice none 0 0] 29) = w0 := ⟨_, rfl⟩
  obtain ⟨c0, c1, hX⟩ := boxed3 hw0
  rw [hw0]
  have HX0 := hid hX
  clear hw0 hX
  cases hg : greatB ws
  · rw [hg] at HGr
    by_cases h8 : q ≤ 8
    · have h8' : ¬ 8 < q := by omega
      go_upto_region 3 with (go_at_call 10; refine (HGr.out _ (HL.out.below HX0.out.bel)).mono ?_; rintro e wg ⟨rfl, hbg⟩; have c0 := keeps hbg c0; have c1 := keeps hbg c1; have HXg := hid (HX0.out.keep hbg); clear hbg)
      have HG := hid hg
      have H8 := hid h8
      clear hg h8 h8' HGr HX0
      by_cases hA : aErr q ws = 0
      · have HA := hid hA
        have HB := hid (aErr_b hA)
        clear hA
        go_upto_region 4 with (go_at_call 11; refine (HAu.out _ (HL.out.below HXg.out.bel)).mono ?_; rintro e w1 (⟨hne, _⟩ | ⟨_, va, rfl, ⟨gR, hR⟩, hb1⟩); (exact absurd HA.out hne); have HR1 := hid hR; have hM := hR.mt (aErr_q HA.out); have c0 := keeps hb1 c0; have c1 := keeps hb1 c1; have HX1 := hid (HXg.out.keep hb1); obtain ⟨aA, cA, rfl, hcA1, hcA2⟩ := hM.slice; clear hM hR hb1)
        obtain ⟨wa, hwa⟩ : ∃ wa, w1.alloc (.cells #[.int .i64 q, .slice aA (sizeW ws) cA] 29) = wa := ⟨_, rfl⟩
        have hba : Below w1.heap.size w1 wa := by rw [← hwa]; exact bel_alloc _ _
        have a0 : wa.cell? ⟨w1.heap.size, 0, none⟩ = some (.int .i64 q) := by rw [← hwa]; simp
        have a1 : wa.cell? ⟨w1.heap.size, 1, none⟩ = some (.slice aA (sizeW ws) cA) := by rw [← hwa]; simp
        rw [hwa]
        have c0 := keeps hba c0
        have c1 := keeps hba c1
        have HXa := hid (HX1.out.keep hba)
        have HRa := hid (HR1.out.keep hba)
        have HLo := hid HXg.out.lo
        have HN1 := hid HX1.out.lo
        clear hwa hba HX1 HXg
        by_cases h12 : sizeW ws ≤ 12
        · have HP := hid (show topB q ws = true by simp [topB, HG.out, H8.out, HA.out, h12])
          have h12' : ¬ 12 < sizeW ws := by omega
          go_upto_region 6 with fail
          go_upto_region 7 with (go_at_call 12; refine (HBd.out _ (HL.out.below HXa.out.bel)).mono ?_; rintro e w2 (⟨hne, _⟩ | ⟨_, vS, vN, vE, rfl, hres, hb2⟩); (exact absurd HB.out hne); have a0 := keeps hb2 a0; have a1 := keeps hb2 a1; have HX2 := hid (HXa.out.keep hb2); have HR2 := hid (HRa.out.keep hb2); obtain ⟨aS, cS, aN, cN, aE, cE, rfl, rfl, rfl⟩ := hres.slices; have HS2 := hid hb2.size; clear hres hb2)
          obtain ⟨wp, hwp⟩ : ∃ wp, w2.alloc (.cells #[.int .i64 q, .slice aS (sizeW ws) cS, .slice aN (sizeW ws) cN, .slice aE (sizeW ws) cE] 27) = wp := ⟨_, rfl⟩
          obtain ⟨hbp, p0, p1, p2, p3⟩ := boxP hwp
          rw [hwp]
          have a0 := keeps hbp a0
          have a1 := keeps hbp a1
          have HXp := hid (HX2.out.keep hbp)
          have HRp := hid (HR2.out.keep hbp)
          obtain ⟨hX0, _, q0, q1, q2, q3, r0, r1, f0, f1, f2, f3, g0, g1⟩ := HXp.out
          have HX0 := hid hX0
          have hd := HX2.out.lo
          have hd1 := HN1.out
          have hn1 : ¬ w2.heap.size = w.heap.size + 1 := by omega
          have hn2 : ¬ w.heap.size + 1 = w2.heap.size := by omega
          have hn3 : ¬ w2.heap.size = w.heap.size + 2 := by omega
          have hn4 : ¬ w.heap.size + 2 = w2.heap.size := by omega
          have hn5 : ¬ w1.heap.size = w.heap.size + 1 := by omega
          have hn6 : ¬ w.heap.size + 1 = w1.heap.size := by omega
          have hn7 : ¬ w1.heap.size = w.heap.size + 2 := by omega
          have hn8 : ¬ w.heap.size + 2 = w1.heap.size := by omega
          clear hwp hbp hX0 hd hd1 HX2 HR2 HXa HRa HS2 HN1 c0 c1 h12' HBd HAu
          generalize w2.heap.size = g2 at *
          generalize w1.heap.size = ga at *
          go_region
          go_wp2
          refine bodyPost_ret (v := .tuple #[.agg #[.int .i64 q, .slice aS (sizeW ws) cS, .slice aN (sizeW ws) cN, .slice aE (sizeW ws) cE], .agg #[.int .i64 q, .slice aA (sizeW ws) cA], .bool true]) ?_ rfl ⟨?_, q, q, aS, aN, aE, aA, _, _, _, _, _, _, _, _, by rw [HP.out], fun _ => ⟨rfl, ?_⟩⟩
          · simp [results, Tryd.results4, go_sem, q0, q1, q2, q3, r0, r1]
          · exact below_drewN (set6_below HX0.out _ _ _ _ _ _) 1
          · have hl1 : w.heap.size + 1 < wg.heap.size := by have := HLo.out; omega
            have hl2 : w.heap.size + 1 + 1 < wg.heap.size := by have := HLo.out; omega
            exact (((((((HRp.out.set (a := ⟨w.heap.size + 1, 0, none⟩) hl1 _).set (a := ⟨w.heap.size + 1, 1, none⟩) hl1 _).set (a := ⟨w.heap.size + 1, 2, none⟩) hl1 _).set (a := ⟨w.heap.size + 1, 3, none⟩) hl1 _).set (a := ⟨w.heap.size + 1 + 1, 0, none⟩) hl2 _).set (a := ⟨w.heap.size + 1 + 1, 1, none⟩) hl2 _).keep (below_drewN (Below.refl _ _) 1)).mt (aErr_q HA.out)
        · have HP := hid (show topB q ws = false by simp [topB, h12])
          have h12' : 12 < sizeW ws := by omega
          obtain ⟨_, _, q0, q1, q2, q3, r0, r1, f0, f1, f2, f3, g0, g1⟩ := HXa.out
          go_wp2
          refine bodyPost_ret (v := .tuple #[nilP, .agg #[.int .i64 0, .slice none 0 0], .bool false]) ?_ rfl ⟨?_, 0, 0, none, none, none, none, 0, 0, 0, 0, 0, 0, 0, 0, by rw [HP.out]; rfl, fun h => absurd (HP.out.symm.trans h) (by decide)⟩
          · simp [results, Tryd.results4, go_sem, nilP, q0, q1, q2, q3, r0, r1]
          · exact set6_below HXa.out.bel _ _ _ _ _ _
      · have HP := hid (show topB q ws = false by simp [topB, hA])
        have HNe := hid hA
        clear hA
        go_upto_region 4 with (go_at_call 11; refine (HAu.out _ (HL.out.below HXg.out.bel)).mono ?_; rintro e w1 (⟨_, ⟨a9, ao9, n9, c9, rfl⟩, hb1⟩ | ⟨h0, _⟩); rotate_left; (exact absurd h0 HNe.out); have HX1 := hid (HXg.out.keep hb1); clear hb1)
        obtain ⟨wa, hwa⟩ : ∃ wa, w1.alloc (.cells #[.int .i64 a9, .slice ao9 n9 c9] 29) = wa := ⟨_, rfl⟩
        have hba : Below w1.heap.size w1 wa := by rw [← hwa]; exact bel_alloc _ _
        rw [hwa]
        have HXa := hid (HX1.out.keep hba)
        have hE2 : (aErr q ws != 0) = true := by simp [HNe.out]
        clear hwa hba HX1 HXg HAu c0 c1
        generalize aErr q ws = E at *
        obtain ⟨_, _, q0, q1, q2, q3, r0, r1, f0, f1, f2, f3, g0, g1⟩ := HXa.out
        go_wp2
        refine bodyPost_ret (v := .tuple #[nilP, .agg #[.int .i64 0, .slice none 0 0], .bool false]) ?_ rfl ⟨?_, 0, 0, none, none, none, none, 0, 0, 0, 0, 0, 0, 0, 0, by rw [HP.out]; rfl, fun h => absurd (HP.out.symm.trans h) (by decide)⟩
        · simp [results, Tryd.results4, go_sem, nilP, q0, q1, q2, q3, r0, r1]
        · exact set6_below HXa.out.bel _ _ _ _ _ _
    · have HP := hid (show topB q ws = false by simp [topB, h8])
      have h8' : 8 < q := by omega
      go_upto_region 2 with (go_at_call 10; refine (HGr.out _ (HL.out.below HX0.out.bel)).mono ?_; rintro e wg ⟨rfl, hbg⟩; have c0 := keeps hbg c0; have HXg := hid (HX0.out.keep hbg); clear hbg)
      obtain ⟨_, _, q0, q1, q2, q3, r0, r1, f0, f1, f2, f3, g0, g1⟩ := HXg.out
      go_wp2
      refine bodyPost_ret (v := .tuple #[nilP, .agg #[.int .i64 0, .slice none 0 0], .bool false]) ?_ rfl ⟨?_, 0, 0, none, none, none, none, 0, 0, 0, 0, 0, 0, 0, 0, by rw [HP.out]; rfl, fun h => absurd (HP.out.symm.trans h) (by decide)⟩
      · simp [results, Tryd.results4, go_sem, nilP, q0, q1, q2, q3, r0, r1]
      · exact set6_below HXg.out.bel _ _ _ _ _ _
  · rw [hg] at HGr
    have HP := hid (show topB q ws = false by simp [topB, hg])
    go_upto_region 2 with (go_at_call 10; refine (HGr.out _ (HL.out.below HX0.out.bel)).mono ?_; rintro e wg ⟨rfl, hbg⟩; have HXg := hid (HX0.out.keep hbg); clear hbg)
    obtain ⟨_, _, q0, q1, q2, q3, r0, r1, f0, f1, f2, f3, g0, g1⟩ := HXg.out
    go_wp2
    refine bodyPost_ret (v := .tuple #[nilP, .agg #[.int .i64 0, .slice none 0 0], .bool false]) ?_ rfl ⟨?_, 0, 0, none, none, none, none, 0, 0, 0, 0, 0, 0, 0, 0, by rw [HP.out]; rfl, fun h => absurd (HP.out.symm.trans h) (by decide)⟩
    · simp [results, Tryd.results4, go_sem, nilP, q0, q1, q2, q3, r0, r1]
    · exact set6_below HXg.out.bel _ _ _ _ _ _
end Go.Proofs.YtjcdddccnfiemaaDoor
