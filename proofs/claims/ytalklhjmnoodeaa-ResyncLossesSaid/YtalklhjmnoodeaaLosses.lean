/-
  groovelaw45.ResyncLosses: nothing is lost between equal words; the losses of two words differ as their numbers of words do.
  No condition beyond the words lying in a slice.
-/
import Derived.Test.YtalklhjmnoodeaaAwake45
import Derived.Test.YtalklhjmnoodeaaLawMach
import Derived.Test.YtalklhjmnoodeaaParRun
import Derived.Test.YtalklhjmnoodeaaBoundErr
import Derived.Test.YtalklhjmnoodeaaLost
import Derived.Test.YtalklhjmnoodeaaContX
namespace Go.Proofs.Ytalklhjmnoodeaa
open Go.RowKit Go.Deep
set_option linter.unusedVariables false

theorem bnd_err2 {q : Int} {ws : List ByteArray} {x y : ByteArray} (hA : aErr q ws = 0) (hs : sizeW ws ≤ 64) (hx : wordErr q x = 0) (hy : wordErr q y = 0) : rErr q ws [x, y] = 0 := by
  rw [rErr, if_neg (by simp [hA]), if_neg (by omega), wordsErr_good hx, wordsErr_good hy]; rfl
theorem lost_ok {q : Int} {v : Value} {ws : List ByteArray} {x y : ByteArray} {X : World} (hE : rErr q ws [x, y] = 0) (h : Calls Try.prog 17 #[.agg #[.int .i64 q, v], .string x, .string y] X (LPost q ws x y X)) :
    Calls Try.prog 17 #[.agg #[.int .i64 q, v], .string x, .string y] X fun e w' => e = .returned (.tuple #[.int .i64 (lostA (emW ws x) (emW ws y) : Nat), .int .i64 (lostB (emW ws x) (emW ws y) : Nat), .int .i64 0]) ∧ Below X.heap.size X w' :=
  h.mono fun e w' ⟨hb, h1⟩ => ⟨by rcases h1 with ⟨hne, _⟩ | ⟨_, h2⟩
                                  · exact absurd hE hne
                                  · exact h2, hb⟩
/-- slices.Equal at a list and itself. -/
theorem equalL_any (v1 v2 : Value) (l : List Int) (w : World) (h1 : Sl 1 w v1 l.length (ints l)) (h2 : Sl 1 w v2 l.length (ints l)) :
    Calls Try.prog 31 #[v1, v2] w fun e w' => e = .returned (.bool true) ∧ Dr w w' := by
  have e : ints l = rowV l.length (fun j => l.getD j 0) := by
    unfold ints rowV
    apply List.ext_getElem?
    intro k
    rw [List.getElem?_map, List.getElem?_map]
    by_cases h : k < l.length
    · simp [h, List.getD_eq_getElem?_getD]
    · simp [h]
  rw [e] at h1 h2
  exact equalI_any v1 v2 l.length _ w h1 h2

set_option maxRecDepth 100000 in
set_option maxHeartbeats 4000000 in
theorem resyncLosses_any (q : Int) (v : Value) (ws : List ByteArray) (x y : ByteArray) (w : World) (hl : Sl 1 w v ws.length (strs ws)) (_hx : x.size ≤ maxLen) (_hy : y.size ≤ maxLen) :
    Calls Try.prog 9 #[.agg #[.int .i64 q, v], .string x, .string y] w fun e w' => e = .returned (.bool true) ∧ Below w.heap.size w w' := by
  have HL := hid hl
  have HMa := hid (fun X h => mach_any q v ws X h)
  have HLo := hid (fun (x y : ByteArray) X h => lost_any q v ws x y X h)
  have HCx := hid (fun X => wcheck_any q x X)
  have HCy := hid (fun X => wcheck_any q y X)
  have hmax : ∀ w', (Builtin.max_ #[27, 27, 27, 27, 27] 27 #[.int .i64 0, .int .i64 0, .int .i64 0, .int .i64 0, .int .i64 0]).run Try.prog w' = .ok (.int .i64 0) w' := fun _ => rfl
  have HAw := hid awake_any
  obtain ⟨ao, cap, rfl, _, hl1, hl2, hl3⟩ := hl
  clear hl3
  go_enter Try.func9, Try.ntmps9
  go_upto_region 1 with fail
  obtain ⟨w0, hw0⟩ : ∃ w0, w.alloc (.cells #[.int .i64 q, .slice ao ws.length cap] 24) = w0 := ⟨_, rfl⟩
  obtain ⟨hb0, c0, c1⟩ := boxed hw0
  rw [hw0]
  have HB0 := hid hb0
  clear hw0 hb0
  cases hM : machB q ws
  · have HM := hid hM
    go_wp2_with (first
      | (go_at_call 19; refine (HMa.out _ (HL.out.below HB0.out)).mono ?_; rintro e w1 (⟨_, ⟨a, aS, aN, aE, nS, cS, nN, cN, nE, cE, rfl⟩, hb1⟩ | ⟨h0, _⟩); rotate_left; (exact absurd (HM.out.symm.trans h0) (by decide)); have HB1 := hid (bel_step HB0.out hb1))
      | (go_at_call 12; refine (HAw.out _).mono ?_; rintro e w2 ⟨rfl, hb2⟩))
    go_ret
    exact ⟨rfl, bel_step (bel_step HB1.out (bel_alloc _ _)) hb2⟩
  · obtain ⟨hA, h16⟩ := machB_true hM
    have hm := mach_of hA
    have HM := hid hM
    obtain ⟨Q, rfl⟩ : ∃ Q : Nat, q = Q := ⟨q.toNat, by have := hm.q2; omega⟩
    have HMm := hid hm
    have HAe := hid hA
    have hq16 := hm.q16
    have hq2 := hm.q2
    clear hM hm hA
    go_upto_region 2 with (go_at_call 19; refine (HMa.out _ (HL.out.below HB0.out)).mono ?_; rintro e w1 (⟨h0, _⟩ | ⟨_, vS, vN, vE, rfl, hres, hb1⟩); (exact absurd (HM.out.symm.trans h0) (by decide)); have HB1 := hid (bel_step HB0.out hb1); have c0 := keeps hb1 c0; have c1 := keeps hb1 c1; obtain ⟨aS, cS, aN, cN, aE, cE, rfl, rfl, rfl⟩ := hres.slices)
    obtain ⟨wp, hwp⟩ : ∃ wp, w1.alloc (.cells #[.int .i64 (Q : Int), .slice aS (sizeW ws) cS, .slice aN (sizeW ws) cN, .slice aE (sizeW ws) cE] 36) = wp := ⟨_, rfl⟩
    obtain ⟨hbp, p0, p1, p2, p3⟩ := boxP hwp
    rw [hwp]
    have HBp := hid (bel_step HB1.out hbp)
    have c0 := keeps hbp c0
    have c1 := keeps hbp c1
    have HPv := hid (show PVal wp (.slice aS (sizeW ws) cS) (.slice aN (sizeW ws) cN) (.slice aE (sizeW ws) cE) (sizeW ws) Q (stW ws) (nxI ws) (emI ws) by have h := (hres.keep hbp).pval (by omega); rw [Int.toNat_natCast] at h; exact h)
    clear hwp hbp hb1 hres
    generalize w1.heap.size = g at *
    by_cases h1 : 40 < x.size
    · have hg : decide ((40 : Int) < (x.size : Int)) = true := by simp; omega
      go_wp2_with (first
        | (go_at_call 12; refine (HAw.out _).mono ?_; rintro e w2 ⟨rfl, hb2⟩))
      go_ret
      exact ⟨rfl, bel_step HBp.out hb2⟩
    · have hg1 : decide ((40 : Int) < (x.size : Int)) = false := by simp; omega
      by_cases h2 : 40 < y.size
      · have hg2 : decide ((40 : Int) < (y.size : Int)) = true := by simp; omega
        go_wp2_with (first
          | (go_at_call 12; refine (HAw.out _).mono ?_; rintro e w2 ⟨rfl, hb2⟩))
        go_ret
        exact ⟨rfl, bel_step HBp.out hb2⟩
      · have hg2 : decide ((40 : Int) < (y.size : Int)) = false := by simp; omega
        by_cases h3 : wordErr Q x = 0
        · have hn1 : (wordErr Q x != 0) = false := by simp [h3]
          by_cases h4 : wordErr Q y = 0
          · have HE := hid (And.intro h3 h4)
            have HOk := hid (wordErr_zero.1 h3).2.2.2
            rw [h3] at HCx
            rw [h4] at HCy
            clear hn1 h3 h4
            have HR0 := hid (fun (z1 z2 : ByteArray) (h1 : wordErr Q z1 = 0) (h2 : wordErr Q z2 = 0) => bnd_err2 (q := (Q : Int)) (ws := ws) HAe.out (by omega) h1 h2)
            have HL1 := hid (fun X h => lost_ok (hE := HR0.out x y HE.out.1 HE.out.2) (HLo.out x y X h))
            have HL2 := hid (fun X h => lost_ok (hE := HR0.out y x HE.out.2 HE.out.1) (HLo.out y x X h))
            have HL3 := hid (fun X h => lost_ok (hE := HR0.out x x HE.out.1 HE.out.1) (HLo.out x x X h))
            rw [← (lost_swap (emW ws x) (emW ws y)).1, ← (lost_swap (emW ws x) (emW ws y)).2] at HL2
            rw [(lost_self (emW ws x)).1, (lost_self (emW ws x)).2] at HL3
            obtain ⟨m1, m2, m3⟩ := lost_len (emW ws x) (emW ws y)
            have HZ := hid (fun (h : lostA (emW ws x) (emW ws y) = 0) (h2 : lostB (emW ws x) (emW ws y) = 0) => lost_zero h h2)
            have hlA := emsN_len (nxN ws) (emI ws) 0 x.data.toList
            have hlB := emsN_len (nxN ws) (emI ws) 0 y.data.toList
            rw [ba_len] at hlA hlB
            have HR1 := hid (fun X h => parRun_any Q ws (.slice aS (sizeW ws) cS) (.slice aN (sizeW ws) cN) (.slice aE (sizeW ws) cE) 0 x X h HAe.out HMm.out.pos (by omega) HE.out.1)
            have HR2 := hid (fun X h => parRun_any Q ws (.slice aS (sizeW ws) cS) (.slice aN (sizeW ws) cN) (.slice aE (sizeW ws) cE) 0 y X h HAe.out HMm.out.pos (by omega) HE.out.2)
            have HCo := hid (fun X => contX_any (q := (Q : Int)) x X HOk.out)
            rw [show ((0 : Nat) : Int) = 0 from rfl] at HR1 HR2
            unfold emW at HL1 HL2 m1 m2 m3 HZ
            clear HLo HR0
            generalize emsN (nxN ws) (emI ws) 0 x.data.toList = A at *
            generalize emsN (nxN ws) (emI ws) 0 y.data.toList = B at *
            generalize lostA A B = p at *
            generalize lostB A B = r at *
            generalize runN (nxN ws) 0 x.data.toList = S at *
            generalize runN (nxN ws) 0 y.data.toList = T at *
            go_upto_region 8 with (first
              | (have _g := HB6.out; clear _g; go_at_call 30; refine (HR1.out _ HPv.out).mono ?_; rintro e w7 ⟨u1, rfl, ho7, hb7⟩; obtain ⟨b1, k1, rfl⟩ := own_slice ho7; have p0 := keeps hb7 p0; have p1 := keeps hb7 p1; have p2 := keeps hb7 p2; have p3 := keeps hb7 p3; have HB7 := hid (bel_step HB6.out hb7); have HPv := hid (HPv.out.below hb7); have HO7 := hid (Sl.of_owns ho7); clear hb7 ho7)
              | (have _g := HB5.out; clear _g; go_at_call 17; refine (HL3.out _ (HL.out.below HB5.out)).mono ?_; rintro e w6 ⟨rfl, hb6⟩; have c0 := keeps hb6 c0; have c1 := keeps hb6 c1; have p0 := keeps hb6 p0; have p1 := keeps hb6 p1; have p2 := keeps hb6 p2; have p3 := keeps hb6 p3; have HB6 := hid (bel_step HB5.out hb6); have HPv := hid (HPv.out.below hb6); clear hb6)
              | (have _g := HB4.out; clear _g; go_at_call 17; refine (HL2.out _ (HL.out.below HB4.out)).mono ?_; rintro e w5 ⟨rfl, hb5⟩; have c0 := keeps hb5 c0; have c1 := keeps hb5 c1; have p0 := keeps hb5 p0; have p1 := keeps hb5 p1; have p2 := keeps hb5 p2; have p3 := keeps hb5 p3; have HB5 := hid (bel_step HB4.out hb5); have HPv := hid (HPv.out.below hb5); clear hb5)
              | (have _g := HB3.out; clear _g; go_at_call 17; refine (HL1.out _ (HL.out.below HB3.out)).mono ?_; rintro e w4 ⟨rfl, hb4⟩; have c0 := keeps hb4 c0; have c1 := keeps hb4 c1; have p0 := keeps hb4 p0; have p1 := keeps hb4 p1; have p2 := keeps hb4 p2; have p3 := keeps hb4 p3; have HB4 := hid (bel_step HB3.out hb4); have HPv := hid (HPv.out.below hb4); clear hb4)
              | (have _g := HB2.out; clear _g; go_at_call 21; refine (HCy.out _).mono ?_; rintro e w'' ⟨rfl, hD⟩; have c0 := keeps (hD.below _) c0; have c1 := keeps (hD.below _) c1; have p0 := keeps (hD.below _) p0; have p1 := keeps (hD.below _) p1; have p2 := keeps (hD.below _) p2; have p3 := keeps (hD.below _) p3; have HB3 := hid (bel_step HB2.out (hD.below _)); have HPv := hid (HPv.out.below (hD.below _)); clear hD)
              | (go_at_call 21; refine (HCx.out _).mono ?_; rintro e w' ⟨rfl, hD⟩; have c0 := keeps (hD.below _) c0; have c1 := keeps (hD.below _) c1; have p0 := keeps (hD.below _) p0; have p1 := keeps (hD.below _) p1; have p2 := keeps (hD.below _) p2; have p3 := keeps (hD.below _) p3; have HB2 := hid (bel_step HBp.out (hD.below _)); have HPv := hid (HPv.out.below (hD.below _)); clear hD))
            clear c0 c1
            have f1 : IntKind.i64.wrap ((p : Int) - (r : Int)) = (p : Int) - (r : Int) := by rw [IntKind.wrap_i64]; omega
            have f2 : IntKind.i64.wrap ((A.length : Int) - (B.length : Int)) = (A.length : Int) - (B.length : Int) := by rw [IntKind.wrap_i64]; omega
            have f3 : ((p : Int) - (r : Int) == (A.length : Int) - (B.length : Int)) = true := by rw [beq_iff_eq]; omega
            have f4 : decide (p ≤ A.length) = true := by simpa using m1
            have f5 : decide (r ≤ B.length) = true := by simpa using m2
            have f6 : IntKind.i64.wrap ((p : Int) + (r : Int)) = (p : Int) + (r : Int) := by rw [IntKind.wrap_i64]; omega
            by_cases hz : p = 0 ∧ r = 0
            · obtain ⟨hp, hr⟩ := hz
              have hAB := HZ.out hp hr
              subst hp hr hAB
              clear f1 f2 f3 f4 f5 f6 m3 HZ
              go_wp2_with (first
                  | (have _g := HB8.out; clear _g; go_at_call 12; refine (HAw.out _).mono ?_; rintro e w10 ⟨rfl, hb10⟩)
                  | (go_at_call 32; refine (HCo.out _).mono ?_; rintro e w' ⟨rfl, rfl⟩)
                  | (go_at_call 31; refine (equalL_any _ _ A _ HO7.out HO8.out).mono ?_; rintro e w9 ⟨rfl, hD9⟩; have HB8 := hid (bel_step HB8.out (hD9.below _)))
                  | (go_at_call 30; refine (HR2.out _ HPv.out).mono ?_; rintro e w8 ⟨u2, rfl, ho8, hb8⟩; obtain ⟨b2, k2, rfl⟩ := own_slice ho8; have HB8 := hid (bel_step HB7.out hb8); have HO7 := hid (HO7.out.below hb8); have HO8 := hid (Sl.of_owns ho8); clear hb8 ho8))
              go_ret
              exact ⟨rfl, bel_step HB8.out hb10⟩
            · have hg : decide ((0 : Int) < (p : Int) + (r : Int)) = true := by simp; omega
              have HZ2 := hid hz
              clear hz m3 HZ
              go_wp2_with (first
                  | (have _g := HB8.out; clear _g; go_at_call 12; refine (HAw.out _).mono ?_; rintro e w10 ⟨rfl, hb10⟩)
                  | (go_at_call 32; refine (HCo.out _).mono ?_; rintro e w' ⟨rfl, rfl⟩)
                  | (go_at_call 30; refine (HR2.out _ HPv.out).mono ?_; rintro e w8 ⟨u2, rfl, ho8, hb8⟩; obtain ⟨b2, k2, rfl⟩ := own_slice ho8; have HB8 := hid (bel_step HB7.out hb8); have HO7 := hid (HO7.out.below hb8); have HO8 := hid (Sl.of_owns ho8); clear hb8 ho8))
              go_ret
              exact ⟨rfl, bel_step HB8.out hb10⟩
          · have hn2 : (wordErr Q y != 0) = true := by simp [h4]
            rw [h3] at HCx
            clear hn1 h3
            generalize wordErr Q y = E2 at *
            go_wp2_with (first
              | (have _g := HB2.out; clear _g; go_at_call 21; refine (HCy.out _).mono ?_; rintro e w'' ⟨rfl, hD⟩; have c0 := keeps (hD.below _) c0; have c1 := keeps (hD.below _) c1; have p0 := keeps (hD.below _) p0; have p1 := keeps (hD.below _) p1; have p2 := keeps (hD.below _) p2; have p3 := keeps (hD.below _) p3; have HB3 := hid (bel_step HB2.out (hD.below _)); have HPv := hid (HPv.out.below (hD.below _)); clear hD)
              | (go_at_call 21; refine (HCx.out _).mono ?_; rintro e w' ⟨rfl, hD⟩; have c0 := keeps (hD.below _) c0; have c1 := keeps (hD.below _) c1; have p0 := keeps (hD.below _) p0; have p1 := keeps (hD.below _) p1; have p2 := keeps (hD.below _) p2; have p3 := keeps (hD.below _) p3; have HB2 := hid (bel_step HBp.out (hD.below _)); have HPv := hid (HPv.out.below (hD.below _)); clear hD)
              | (go_at_call 12; refine (HAw.out _).mono ?_; rintro e w2 ⟨rfl, hb2⟩))
            go_ret
            exact ⟨rfl, bel_step HB3.out hb2⟩
        · have hn1 : (wordErr Q x != 0) = true := by simp [h3]
          generalize wordErr Q x = E1 at *
          go_wp2_with (first
            | (go_at_call 21; refine (HCx.out _).mono ?_; rintro e w' ⟨rfl, hD⟩; have c0 := keeps (hD.below _) c0; have c1 := keeps (hD.below _) c1; have p0 := keeps (hD.below _) p0; have p1 := keeps (hD.below _) p1; have p2 := keeps (hD.below _) p2; have p3 := keeps (hD.below _) p3; have HB2 := hid (bel_step HBp.out (hD.below _)); have HPv := hid (HPv.out.below (hD.below _)); clear hD)
            | (go_at_call 12; refine (HAw.out _).mono ?_; rintro e w2 ⟨rfl, hb2⟩))
          go_ret
          exact ⟨rfl, bel_step HB2.out hb2⟩
end Go.Proofs.Ytalklhjmnoodeaa
