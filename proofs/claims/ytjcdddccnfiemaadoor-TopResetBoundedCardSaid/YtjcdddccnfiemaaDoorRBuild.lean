/-
  resync.build: the parser of a maximal prefix code, or why there is none.
  No condition beyond the words lying in slices.
-/
import Derived.Test.YtjcdddccnfiemaaDoorPAuto
namespace Go.Proofs.YtjcdddccnfiemaaDoor
open Go.RowKit Go.Deep
set_option linter.unusedVariables false

/-- The first error of some words. -/
def wordsErr (q : Int) : List ByteArray → Int
  | [] => 0
  | x :: r => if wordErr q x ≠ 0 then wordErr q x else wordsErr q r
theorem wordsErr_bad {q : Int} {x : ByteArray} {r : List ByteArray} (h : ¬ wordErr q x = 0) : wordsErr q (x :: r) = wordErr q x := by rw [wordsErr, if_pos h]
theorem wordsErr_good {q : Int} {x : ByteArray} {r : List ByteArray} (h : wordErr q x = 0) : wordsErr q (x :: r) = wordsErr q r := by rw [wordsErr, if_neg (by simp [h])]
/-- Why resync has no machine for a code and words. -/
def rErr (q : Int) (ws xs : List ByteArray) : Int := if aErr q ws ≠ 0 then aErr q ws else if 64 < sizeW ws then 4 else wordsErr q xs
def RPost (q : Int) (ws xs : List ByteArray) (w : World) (e : Ending) (w' : World) : Prop :=
  (rErr q ws xs ≠ 0 ∧ e = .returned (.tuple #[nilP, .int .i64 (rErr q ws xs)]) ∧ Below w.heap.size w w') ∨
  (rErr q ws xs = 0 ∧ ∃ vS vN vE, e = .returned (.tuple #[.agg #[.int .i64 q, vS, vN, vE], .int .i64 0]) ∧ PRes w' w.heap.size vS vN vE (sizeW ws) q.toNat (stW ws) (nxI ws) (emI ws) ∧ Below w.heap.size w w')
theorem aErr_b {q : Int} {ws : List ByteArray} (h : aErr q ws = 0) : bErr q ws = 0 := by
  unfold aErr at h
  split at h
  · rename_i h1; exact absurd h h1
  · rename_i h1; simpa using h1

set_option maxRecDepth 100000 in
set_option maxHeartbeats 2000000 in
theorem rbuild_any (q : Int) (v vx : Value) (ws xs : List ByteArray) (w : World) (hl : Sl 1 w v ws.length (strs ws)) (hx : Sl 1 w vx xs.length (strs xs)) :
    Calls Tryd.prog 16 #[.agg #[.int .i64 q, v], vx] w (RPost q ws xs w) := by
  have HL := hid hl
  have HX := hid hx
  have HBd := hid (fun X h => build_any q v ws X h)
  have HAu := hid (fun X h => auto_any q v ws X h)
  obtain ⟨ao, cap, rfl, _, hl1, hl2, hl3⟩ := hl
  obtain ⟨aox, capx, rfl, _, hx1, hx2, hx3⟩ := hx
  clear hl3 hx3
  go_enter Tryd.func16, Tryd.ntmps16
  go_upto_region 1 with fail
  obtain ⟨w0, hw0⟩ : ∃ w0, (w.alloc (.cells #[.int .i64 q, .slice ao ws.length cap] 24)).alloc (.cells #[.int .i64 0, .slice none 0 0, .slice none 0 0, .slice none 0 0] 27) = w0 := ⟨_, rfl⟩
  obtain ⟨hb0, c0, c1, hr⟩ := boxed2 hw0
  rw [hw0]
  have HB0 := hid hb0
  clear hw0 hb0
  by_cases hA : aErr q ws = 0
  · have HA := hid hA
    have hB := aErr_b hA
    have hA2 : (aErr q ws != 0) = false := by simp [hA]
    go_upto_region 2 with (go_at_call 11; refine (HAu.out _ (HL.out.below HB0.out)).mono ?_; rintro e w1 ⟨⟨a, ab, an, ac, rfl⟩, hb1⟩; rw [hA]; have HB1 := hid (bel_step HB0.out hb1); have c0 := keeps hb1 c0; have c1 := keeps hb1 c1; have hr := row_below hr hb1)
    have HB1' := HB1
    obtain ⟨wa, hwa⟩ : ∃ wa, w1.alloc (.cells #[.int .i64 a, .slice ab an ac] 29) = wa := ⟨_, rfl⟩
    have hba : Below w1.heap.size w1 wa := by rw [← hwa]; exact bel_alloc _ _
    rw [hwa]
    have HBa := hid (bel_step HB1.out hba)
    have c0 := keeps hba c0
    have c1 := keeps hba c1
    have hr := row_below hr hba
    clear hwa hba hb1 HB1 HB1' HAu
    go_upto_region 5 with (go_at_call 12; refine (HBd.out _ (HL.out.below HBa.out)).mono ?_; rintro e w2 (⟨hne, _⟩ | ⟨_, vS, vN, vE, rfl, hres, hb2⟩); (exact absurd hB hne); have HB2 := hid (bel_step HBa.out hb2); have HRes := hid hres; obtain ⟨aS, cS, aN, cN, aE, cE, rfl, rfl, rfl⟩ := hres.slices; have c0 := keeps hb2 c0; have c1 := keeps hb2 c1; have hra := hr.lt; have hr := row_below hr hb2)
    obtain ⟨wp, hwp⟩ : ∃ wp, w2.alloc (.cells #[.int .i64 q, .slice aS (sizeW ws) cS, .slice aN (sizeW ws) cN, .slice aE (sizeW ws) cE] 27) = wp := ⟨_, rfl⟩
    obtain ⟨hbp, p0, p1, p2, p3⟩ := boxP hwp
    rw [hwp]
    have HBp := hid (bel_step HB2.out hbp)
    have c0 := keeps hbp c0
    have hr := row_below hr hbp
    have HRp := hid (HRes.out.keep hbp)
    have HR := hid hr
    have HC := hid c0
    have HP := hid (And.intro p0 (And.intro p1 (And.intro p2 p3)))
    clear hwp hbp hb2 HB2 HBa HBd c0 c1 hr hres HRes
    generalize w2.heap.size = g at *
    by_cases h64 : 64 < sizeW ws
    · have HE := hid (show rErr q ws xs = 4 by rw [rErr, if_neg (by simp [hA]), if_pos h64])
      obtain ⟨⟨q0, q1, q2, q3⟩, f0, f1, f2, f3⟩ := zero4 HR.out
      obtain ⟨p0, p1, p2, p3⟩ := HP.out
      go_wp2
      refine bodyPost_ret (v := .tuple #[nilP, .int .i64 4]) ?_ rfl (.inl ⟨by rw [HE.out]; decide, by rw [HE.out], ?_⟩)
      · simp [results, Tryd.results16, go_sem, nilP, q0, q1, q2, q3]
      · exact set4_below HBp.out (by omega) _ _ _ _
    · have HE := hid (show rErr q ws xs = wordsErr q xs by rw [rErr, if_neg (by simp [hA]), if_neg h64])
      have p1 := HP.out.2.1
      go_upto_region 10 with fail
      clear p1
      go_loopw [40] (fun i wr => ∃ k : Nat, k ≤ xs.length ∧ i = .int .i64 k ∧ Dr wp wr ∧ Hid (rErr q ws xs = wordsErr q (xs.drop k))) (fun i _ => xs.length - (intOf i).toNat)
      case atStart => exact ⟨0, Nat.zero_le _, rfl, Dr.refl _, HE⟩
      case round =>
        obtain ⟨k, hk, rfl, hD, HK⟩ := hrel
        have HD := hid hD
        have hb := hD.below wp.heap.size
        have c0 := keeps hb HC.out
        obtain ⟨⟨q0, q1, q2, q3⟩, f0, f1, f2, f3⟩ := zero4 (row_below HR.out hb)
        obtain ⟨p0, p1, p2, p3⟩ := HP.out
        have p0 := keeps hb p0
        have p1 := keeps hb p1
        have p2 := keeps hb p2
        have p3 := keeps hb p3
        clear hb hD
        by_cases hlt : k < xs.length
        · obtain ⟨x, hxk⟩ := some_of_lt hlt
          obtain ⟨bx, ox, rfl, cx⟩ := (HX.out.below (bel_step HBp.out (HD.out.below _))).cell (strs_get hxk)
          have HXk := hid hxk
          have HW := hid (fun X => wcheck_any q x X)
          clear hxk
          by_cases hE : wordErr q x = 0
          · have HN := hid (show rErr q ws xs = wordsErr q (xs.drop (k + 1)) by rw [HK.out, drop_cons HXk.out, wordsErr_good hE])
            rw [hE] at HW
            clear hE
            go_wp2_with (go_at_call 5; refine (HW.out _).mono ?_; rintro e w3 ⟨rfl, hD3⟩)
            go_roundw
            case rel => exact ⟨k + 1, by omega, by go_num, HD.out.trans hD3, HN⟩
            case measure => simp [intOf]; omega
          · have HN := hid (show rErr q ws xs = wordErr q x by rw [HK.out, drop_cons HXk.out, wordsErr_bad hE])
            have hE2 : (wordErr q x != 0) = true := by simp [hE]
            have HNe := hid hE
            clear hE
            generalize wordErr q x = E at *
            go_upto_region 14 with (go_at_call 5; refine (HW.out _).mono ?_; rintro e w3 ⟨rfl, hD3⟩; have hb3 := hD3.below wr.heap.size; have f0 := keeps_frozen hb3 q0 f0; have f1 := keeps_frozen hb3 q1 f1; have f2 := keeps_frozen hb3 q2 f2; have f3 := keeps_frozen hb3 q3 f3; have q0 := keeps hb3 q0; have q1 := keeps hb3 q1; have q2 := keeps hb3 q2; have q3 := keeps hb3 q3)
            go_wp2
            refine bodyPost_ret (v := .tuple #[nilP, .int .i64 E]) ?_ rfl (.inl ⟨by rw [HN.out]; exact HNe.out, by rw [HN.out], ?_⟩)
            · simp [results, Tryd.results16, go_sem, nilP, q0, q1, q2, q3]
            · exact set4_below (bel_step (bel_step HBp.out (HD.out.below _)) hb3) (by omega) _ _ _ _
        · have HN := hid (show rErr q ws xs = 0 by rw [HK.out, drop_all (by omega)]; rfl)
          go_wp2
          refine bodyPost_ret (v := .tuple #[.agg #[.int .i64 q, .slice aS (sizeW ws) cS, .slice aN (sizeW ws) cN, .slice aE (sizeW ws) cE], .int .i64 0]) ?_ rfl (.inr ⟨HN.out, _, _, _, rfl, ?_, ?_⟩)
          · simp [results, Tryd.results16, go_sem, q0, q1, q2, q3]
          · exact (((((HRp.out.keep (HD.out.below _)).set (a := ⟨w.heap.size + 1, 0, none⟩) hra _).set (a := ⟨w.heap.size + 1, 1, none⟩) hra _).set (a := ⟨w.heap.size + 1, 2, none⟩) hra _).set (a := ⟨w.heap.size + 1, 3, none⟩) hra _).base (by omega)
          · exact set4_below (bel_step HBp.out (HD.out.below _)) (by omega) _ _ _ _
  · have HE := hid (show rErr q ws xs = aErr q ws by rw [rErr, if_pos hA])
    have HNe := hid hA
    have hA2 : (aErr q ws != 0) = true := by simp [hA]
    clear hA
    generalize aErr q ws = E at *
    go_upto_region 2 with (go_at_call 11; refine (HAu.out _ (HL.out.below HB0.out)).mono ?_; rintro e w1 ⟨⟨a, ab, an, ac, rfl⟩, hb1⟩; have HB1 := hid (bel_step HB0.out hb1); have hr := row_below hr hb1)
    obtain ⟨wa, hwa⟩ : ∃ wa, w1.alloc (.cells #[.int .i64 a, .slice ab an ac] 29) = wa := ⟨_, rfl⟩
    have hba : Below w1.heap.size w1 wa := by rw [← hwa]; exact bel_alloc _ _
    rw [hwa]
    have HBa := hid (bel_step HB1.out hba)
    have hr := row_below hr hba
    obtain ⟨⟨q0, q1, q2, q3⟩, f0, f1, f2, f3⟩ := zero4 hr
    clear hwa hba hb1 HB1 HAu hr
    go_wp2
    refine bodyPost_ret (v := .tuple #[nilP, .int .i64 E]) ?_ rfl (.inl ⟨by rw [HE.out]; exact HNe.out, by rw [HE.out], ?_⟩)
    · simp [results, Tryd.results16, go_sem, nilP, q0, q1, q2, q3]
    · exact set4_below HBa.out (by omega) _ _ _ _
end Go.Proofs.YtjcdddccnfiemaaDoor
