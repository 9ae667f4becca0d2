/-
  grooveref45.Lost: what resync.Lost says, too.
  No condition beyond the words lying in a slice.
-/
import Derived.Test.YtalklhjmnoodeaaRefDelay
import Derived.Test.YtalklhjmnoodeaaLost
namespace Go.Proofs.Ytalklhjmnoodeaa
open Go.RowKit Go.Deep
set_option linter.unusedVariables false

theorem rErr_two {q : Int} {ws : List ByteArray} {x y : ByteArray} : rErr q ws [x, y] = if rErr q ws [] ≠ 0 then rErr q ws [] else if wordErr q x ≠ 0 then wordErr q x else wordErr q y := by
  by_cases h1 : aErr q ws ≠ 0
  · unfold rErr
    rw [if_pos h1, if_pos h1, if_pos h1]
  · by_cases h2 : 64 < sizeW ws
    · unfold rErr
      rw [if_neg h1, if_neg h1, if_pos h2, if_pos h2]; rfl
    · have h0 : rErr q ws [] = 0 := by unfold rErr; rw [if_neg h1, if_neg h2]; rfl
      rw [if_neg (by simp [h0])]
      have hr : rErr q ws [x, y] = wordsErr q [x, y] := by unfold rErr; rw [if_neg h1, if_neg h2]
      rw [hr]
      by_cases h3 : wordErr q x = 0
      · rw [if_neg (by simp [h3]), wordsErr_good h3]
        have hr2 := rErr_one (q := q) (ws := ws) (x := y)
        rw [if_neg (by simp [h0])] at hr2
        rw [← hr2]; unfold rErr; rw [if_neg h1, if_neg h2]
      · rw [if_pos h3, wordsErr_bad h3]

set_option maxRecDepth 100000 in
set_option maxHeartbeats 8000000 in
theorem rlost_any (q : Int) (v : Value) (ws : List ByteArray) (x y : ByteArray) (w : World) (hl : Sl 1 w v ws.length (strs ws)) :
    Calls Try.prog 18 #[.agg #[.int .i64 q, v], .string x, .string y] w (LPost q ws x y w) := by
  have HL := hid hl
  have HOf := hid (fun (X : World) h => rof_any q v ws X h)
  have HCx := hid (fun (X : World) => rwcheck_any q x X)
  have HCy := hid (fun (X : World) => rwcheck_any q y X)
  obtain ⟨ao, cap, rfl, _, hl1, hl2, hl3⟩ := hl
  clear hl3
  go_enter Try.func18, Try.ntmps18
  go_upto_region 1 with fail
  obtain ⟨w0, hw0⟩ : ∃ w0, w.alloc (.cells #[.int .i64 q, .slice ao ws.length cap] 24) = w0 := ⟨_, rfl⟩
  obtain ⟨hb0, c0, c1⟩ := boxed hw0
  rw [hw0]
  have HB0 := hid hb0
  clear hw0 hb0
  go_upto_region 2 with (go_at_call 42; refine (HOf.out _ (HL.out.below HB0.out)).mono ?_; rintro e w1 ⟨⟨aN, nN, cN, aE, nE, cE, rfl, hM⟩, hb1⟩; have HB1 := hid (bel_step HB0.out hb1); have c0 := keeps hb1 c0)
  obtain ⟨wp, hwp⟩ : ∃ wp, w1.alloc (.cells #[.slice aN nN cN, .slice aE nE cE] 69) = wp := ⟨_, rfl⟩
  obtain ⟨hbp, p0, p1⟩ := boxM hwp
  rw [hwp]
  have HBp := hid (bel_step HB1.out hbp)
  have c0 := keeps hbp c0
  have HMp := hid (fun h => (⟨(hM h).1.below hbp, (hM h).2.below hbp⟩ : Mt wp _ _ _ _ ∧ Mt wp _ _ _ _))
  clear hwp hbp hb1 hM HOf HL c1
  generalize w1.heap.size = g at *
  have HTwo := hid (rErr_two (q := q) (ws := ws) (x := x) (y := y))
  generalize hE0 : rErr q ws [] = E0 at *
  clear hE0
  by_cases hE : E0 = 0
  · generalize hW : wordErr q x = W0 at *
    have HW := hid hW
    generalize hV : wordErr q y = V0 at *
    have HV := hid hV
    clear hW hV
    by_cases hW0 : W0 = 0
    · by_cases hV0 : V0 = 0
      · have hE1 : rErr q ws [x, y] = 0 := by rw [HTwo.out, if_neg (by simp [hE]), if_neg (by simp [hW0]), hV0]
        obtain ⟨hA, h64, hwx⟩ := rErr_zero hE1
        have hm := mach_of hA
        obtain ⟨_, _, hx6, hok⟩ := wordErr_zero.1 (HW.out.trans hW0)
        obtain ⟨_, _, hy6, hoky⟩ := wordErr_zero.1 (HV.out.trans hV0)
        obtain ⟨hMN, hME⟩ := HMp.out hE
        have hMN := hMN.congr hm.eq
        obtain ⟨Q, rfl⟩ : ∃ Q : Nat, q = Q := ⟨q.toNat, by have := hm.q2; omega⟩
        rw [Int.toNat_natCast] at hMN hME
        obtain ⟨_, _, e1, _⟩ := hMN.slice
        obtain ⟨_, _, e2, _⟩ := hME.slice
        simp only [Value.slice.injEq] at e1 e2
        obtain ⟨-, rfl, -⟩ := e1
        obtain ⟨-, rfl, -⟩ := e2
        have HM := hid hm
        have HE := hid hE1
        have HOk := hid (And.intro hok hoky)
        have HMN := hid hMN
        have HME := hid hME
        have h00 := hm.pos
        clear hMN hME hE1 hA hwx hm hok hoky HMp HTwo
        subst hE hW0 hV0
        have HRun := hid (fun (z : ByteArray) (X : World) h h2 ho hz => rrun_any (.slice aN (sizeW ws) cN) (.slice aE (sizeW ws) cE) (sizeW ws) Q (nxN ws) (emI ws) 0 z X h h2 HM.out.lt h00 (by omega) ho hz)
        go_upto_region 7 with (go_at_call 43; refine (HCx.out _).mono ?_; clear HCx; rintro e w2 ⟨rfl, rfl⟩)
        go_upto_region 10 with (go_at_call 43; refine (HCy.out _).mono ?_; clear HCy; rintro e w2 ⟨rfl, rfl⟩)
        go_upto_region 11 with (go_at_call 44; refine (HRun.out x _ HMN.out HME.out HOk.out.1 (by omega)).mono ?_; rintro e w2 ⟨u2, rfl, ho2, hb2⟩; obtain ⟨a2, k2, rfl⟩ := own_slice ho2; have p0 := keeps hb2 p0; have p1 := keeps hb2 p1; have HB2 := hid hb2; have HO2 := hid (Sl.of_owns ho2); clear hb2)
        have HB2f := hid (bel_step HBp.out HB2.out)
        go_upto_region 12 with (go_at_call 44; refine (HRun.out y _ (HMN.out.below HB2.out) (HME.out.below HB2.out) HOk.out.2 (by omega)).mono ?_; rintro e w3 ⟨u3, rfl, ho3, hb3⟩; obtain ⟨a3, k3, rfl⟩ := own_slice ho3; have HB3 := hid (bel_step HB2f.out hb3); have HO2 := hid (HO2.out.below hb3); have HO3 := hid (Sl.of_owns ho3); clear hb3 ho3)
        have hl2 := emsN_len (nxN ws) (emI ws) 0 x.data.toList
        have hl3 := emsN_len (nxN ws) (emI ws) 0 y.data.toList
        rw [ba_len] at hl2 hl3
        have HF := hid (show emW ws x = emsN (nxN ws) (emI ws) 0 x.data.toList ∧ emW ws y = emsN (nxN ws) (emI ws) 0 y.data.toList from ⟨rfl, rfl⟩)
        clear ho2 p0 p1 HRun HMN HME HOk HB2 c0
        generalize hA : emsN (nxN ws) (emI ws) 0 x.data.toList = A at *
        generalize hB : emsN (nxN ws) (emI ws) 0 y.data.toList = B at *
        clear hA hB
        go_loopw [14, 16] (fun va vb wr => ∃ la lb : List Int, Sl 1 wr va la.length (ints la) ∧ Sl 1 wr vb lb.length (ints lb) ∧ Dr w3 wr ∧ Hid (cutHead A B = cutHead la lb)) (fun va _ _ => lenOf va)
        case atStart => exact ⟨A, B, HO2.out, HO3.out, Dr.refl _, hid rfl⟩
        case round =>
          obtain ⟨la, lb, hla, hlb, hD, HC⟩ := hrel
          have HD := hid hD
          have HLA := hid hla
          have HLB := hid hlb
          obtain ⟨a1, k1, rfl, hk1, hk1m⟩ := hla.lens
          obtain ⟨a4, k4, rfl, hk4, hk4m⟩ := hlb.lens
          clear hD
          rcases la with _ | ⟨a, la⟩
          · have HFin : Hid (∃ lc ld : List Int, Sl 1 wr (.slice a1 0 k1) lc.length (ints lc) ∧ Sl 1 wr (.slice a4 lb.length k4) ld.length (ints ld) ∧ cutHead A B = (lc, ld)) := hid ⟨[], lb, hla, hlb, HC.out.trans (cutHead_nil lb)⟩
            simp only [List.length_nil] at *
            clear hla hlb
            go_wp2_with fail
            go_quiet (fail)
            go_wp2_with fail
            clear hk1 hk4 hk1m hk4m
            clear HC
            go_loopw [14, 16] (fun va vb wr => ∃ la lb : List Int, Sl 1 wr va la.length (ints la) ∧ Sl 1 wr vb lb.length (ints lb) ∧ Dr w3 wr ∧ Hid (swp (cutHead A B) = swp (la, lb))) (fun va _ _ => lenOf va)
            case atStart =>
              obtain ⟨la', lb', h1, h2, h3⟩ := HFin.out
              exact ⟨la', lb', h1.dr (Dr.drewN (Dr.refl _) _), h2.dr (Dr.drewN (Dr.refl _) _), HD.out.drewN _, hid (by rw [h3])⟩
            case round =>
              obtain ⟨lc, ld, hlc, hld, hD2, HC2⟩ := hrel
              have HD2 := hid hD2
              have HLC := hid hlc
              have HLD := hid hld
              obtain ⟨a5, k5, rfl, hk5, hk5m⟩ := hlc.lens
              obtain ⟨a6, k6, rfl, hk6, hk6m⟩ := hld.lens
              clear hD2 HFin HLA HLB HD
              rcases List.eq_nil_or_concat lc with rfl | ⟨lc, c, rfl⟩
              · have HE2 := hid (show lostA A B = 0 ∧ lostB A B = ld.length by unfold lostA lostB lostL; rw [HC2.out]; exact swp_nil ld)
                simp only [List.length_nil] at *
                clear hlc hld
                go_wp2_with fail
                go_quiet (fail)
                go_wp2
                go_ret3
                exact ⟨bel_step HB3.out ((HD2.out.drewN _).below _), .inr ⟨HE.out, by rw [HF.out.1, HF.out.2, HE2.out.1, HE2.out.2]; rfl⟩⟩
              · rw [List.concat_eq_append] at *
                have hn5' : (lc ++ [c]).length = lc.length + 1 := by simp
                generalize hn5 : (lc ++ [c]).length = n5 at *
                rcases List.eq_nil_or_concat ld with rfl | ⟨ld, d, rfl⟩
                · have HE2 := hid (show lostA A B = n5 ∧ lostB A B = 0 by unfold lostA lostB lostL; rw [HC2.out]; have h := swp_nil2 (lc ++ [c]); rw [hn5] at h; exact h)
                  simp only [List.length_nil] at *
                  clear hlc hld
                  have h0 : 0 < n5 := by omega
                  clear hn5 hn5'
                  go_wp2_with fail
                  go_quiet (fail)
                  go_wp2
                  go_ret3
                  exact ⟨bel_step HB3.out ((HD2.out.drewN _).below _), .inr ⟨HE.out, by rw [HF.out.1, HF.out.2, HE2.out.1, HE2.out.2]; rfl⟩⟩
                · rw [List.concat_eq_append] at *
                  have hn6' : (ld ++ [d]).length = ld.length + 1 := by simp
                  generalize hn6 : (ld ++ [d]).length = n6 at *
                  have f1 : IntKind.i64.wrap ((n5 : Int) - 1) = (n5 : Int) - 1 := IntWalk.i64_in _ (by omega)
                  have f2 : (0 : Int) ≤ (n5 : Int) - 1 := by omega
                  have f3 : (n5 : Int) - 1 < n5 := by omega
                  have f4 : ((n5 : Int) - 1).toNat = n5 - 1 := by omega
                  have f5 : (1 : Int) ≤ (n5 : Int) := by omega
                  have f6 : (n5 : Int) - 1 ≤ (k5 : Int) := by omega
                  have f7 : 0 < n5 := by omega
                  have g1 : IntKind.i64.wrap ((n6 : Int) - 1) = (n6 : Int) - 1 := IntWalk.i64_in _ (by omega)
                  have g2 : (0 : Int) ≤ (n6 : Int) - 1 := by omega
                  have g3 : (n6 : Int) - 1 < n6 := by omega
                  have g4 : ((n6 : Int) - 1).toNat = n6 - 1 := by omega
                  have g5 : (1 : Int) ≤ (n6 : Int) := by omega
                  have g6 : (n6 : Int) - 1 ≤ (k6 : Int) := by omega
                  have g7 : 0 < n6 := by omega
                  have HI5 := hid (Sl.init hn5' hlc)
                  have HI6 := hid (Sl.init hn6' hld)
                  obtain ⟨b5, o5, rfl, m5⟩ := Sl.last hn5' hlc
                  obtain ⟨b6, o6, rfl, m6⟩ := Sl.last hn6' hld
                  have HN := hid (And.intro hn5 hn6)
                  clear hlc hld hn5 hn6 hn5' hn6'
                  by_cases hcd : c = d
                  · have hb : (c == d) = true := by simp [hcd]
                    have HS := hid (show swp (cutHead A B) = swp (lc, ld) by rw [HC2.out, hcd]; exact swp_last)
                    clear hcd
                    go_wp2_with fail
                    go_quiet (fail)
                    go_wp2_with fail
                    go_quiet (fail)
                    clear f1 f4 g1 g4
                    go_wp2
                    go_roundw
                    case rel => exact ⟨lc, ld, HI5.out.dr (((Dr.refl _).drewN _).drewN _), HI6.out.dr (((Dr.refl _).drewN _).drewN _), (HD2.out.drewN _).drewN _, HS⟩
                    case measure => simp [lenOf]; omega
                  · have hb : (c == d) = false := by simp [hcd]
                    have HE2 := hid (show lostA A B = n5 ∧ lostB A B = n6 by unfold lostA lostB lostL; rw [HC2.out]; have h := swp_ne (l := lc) (r := ld) hcd; rw [HN.out.1, HN.out.2] at h; exact h)
                    clear hcd
                    go_wp2_with fail
                    go_quiet (fail)
                    clear f1 f4 g1 g4
                    go_wp2
                    go_ret3
                    exact ⟨bel_step HB3.out ((HD2.out.drewN _).below _), .inr ⟨HE.out, by rw [HF.out.1, HF.out.2, HE2.out.1, HE2.out.2]; rfl⟩⟩
          · rcases lb with _ | ⟨b, lb⟩
            · obtain ⟨g1, o1, rfl, n1⟩ := hla.first
              have HFin : Hid (∃ lc ld : List Int, Sl 1 wr (.slice (some ⟨g1, o1, none⟩) (la.length + 1) k1) lc.length (ints lc) ∧ Sl 1 wr (.slice a4 0 k4) ld.length (ints ld) ∧ cutHead A B = (lc, ld)) := hid ⟨a :: la, [], hla, hlb, HC.out.trans (cutHead_nil2 (a :: la))⟩
              have hn0 : (a :: la).length = la.length + 1 := rfl
              rw [hn0] at *
              simp only [List.length_nil] at *
              clear hla hlb hn0
              go_wp2_with fail
              go_quiet (fail)
              go_wp2_with fail
              clear hk1 hk4 hk1m hk4m
              clear HC n1
              go_loopw [14, 16] (fun va vb wr => ∃ la lb : List Int, Sl 1 wr va la.length (ints la) ∧ Sl 1 wr vb lb.length (ints lb) ∧ Dr w3 wr ∧ Hid (swp (cutHead A B) = swp (la, lb))) (fun va _ _ => lenOf va)
              case atStart =>
                obtain ⟨la', lb', h1, h2, h3⟩ := HFin.out
                exact ⟨la', lb', h1.dr (Dr.drewN (Dr.refl _) _), h2.dr (Dr.drewN (Dr.refl _) _), HD.out.drewN _, hid (by rw [h3])⟩
              case round =>
                obtain ⟨lc, ld, hlc, hld, hD2, HC2⟩ := hrel
                have HD2 := hid hD2
                have HLC := hid hlc
                have HLD := hid hld
                obtain ⟨a5, k5, rfl, hk5, hk5m⟩ := hlc.lens
                obtain ⟨a6, k6, rfl, hk6, hk6m⟩ := hld.lens
                clear hD2 HFin HLA HLB HD
                rcases List.eq_nil_or_concat lc with rfl | ⟨lc, c, rfl⟩
                · have HE2 := hid (show lostA A B = 0 ∧ lostB A B = ld.length by unfold lostA lostB lostL; rw [HC2.out]; exact swp_nil ld)
                  simp only [List.length_nil] at *
                  clear hlc hld
                  go_wp2_with fail
                  go_quiet (fail)
                  go_wp2
                  go_ret3
                  exact ⟨bel_step HB3.out ((HD2.out.drewN _).below _), .inr ⟨HE.out, by rw [HF.out.1, HF.out.2, HE2.out.1, HE2.out.2]; rfl⟩⟩
                · rw [List.concat_eq_append] at *
                  have hn5' : (lc ++ [c]).length = lc.length + 1 := by simp
                  generalize hn5 : (lc ++ [c]).length = n5 at *
                  rcases List.eq_nil_or_concat ld with rfl | ⟨ld, d, rfl⟩
                  · have HE2 := hid (show lostA A B = n5 ∧ lostB A B = 0 by unfold lostA lostB lostL; rw [HC2.out]; have h := swp_nil2 (lc ++ [c]); rw [hn5] at h; exact h)
                    simp only [List.length_nil] at *
                    clear hlc hld
                    have h0 : 0 < n5 := by omega
                    clear hn5 hn5'
                    go_wp2_with fail
                    go_quiet (fail)
                    go_wp2
                    go_ret3
                    exact ⟨bel_step HB3.out ((HD2.out.drewN _).below _), .inr ⟨HE.out, by rw [HF.out.1, HF.out.2, HE2.out.1, HE2.out.2]; rfl⟩⟩
                  · rw [List.concat_eq_append] at *
                    have hn6' : (ld ++ [d]).length = ld.length + 1 := by simp
                    generalize hn6 : (ld ++ [d]).length = n6 at *
                    have f1 : IntKind.i64.wrap ((n5 : Int) - 1) = (n5 : Int) - 1 := IntWalk.i64_in _ (by omega)
                    have f2 : (0 : Int) ≤ (n5 : Int) - 1 := by omega
                    have f3 : (n5 : Int) - 1 < n5 := by omega
                    have f4 : ((n5 : Int) - 1).toNat = n5 - 1 := by omega
                    have f5 : (1 : Int) ≤ (n5 : Int) := by omega
                    have f6 : (n5 : Int) - 1 ≤ (k5 : Int) := by omega
                    have f7 : 0 < n5 := by omega
                    have g1 : IntKind.i64.wrap ((n6 : Int) - 1) = (n6 : Int) - 1 := IntWalk.i64_in _ (by omega)
                    have g2 : (0 : Int) ≤ (n6 : Int) - 1 := by omega
                    have g3 : (n6 : Int) - 1 < n6 := by omega
                    have g4 : ((n6 : Int) - 1).toNat = n6 - 1 := by omega
                    have g5 : (1 : Int) ≤ (n6 : Int) := by omega
                    have g6 : (n6 : Int) - 1 ≤ (k6 : Int) := by omega
                    have g7 : 0 < n6 := by omega
                    have HI5 := hid (Sl.init hn5' hlc)
                    have HI6 := hid (Sl.init hn6' hld)
                    obtain ⟨b5, o5, rfl, m5⟩ := Sl.last hn5' hlc
                    obtain ⟨b6, o6, rfl, m6⟩ := Sl.last hn6' hld
                    have HN := hid (And.intro hn5 hn6)
                    clear hlc hld hn5 hn6 hn5' hn6'
                    by_cases hcd : c = d
                    · have hb : (c == d) = true := by simp [hcd]
                      have HS := hid (show swp (cutHead A B) = swp (lc, ld) by rw [HC2.out, hcd]; exact swp_last)
                      clear hcd
                      go_wp2_with fail
                      go_quiet (fail)
                      go_wp2_with fail
                      go_quiet (fail)
                      clear f1 f4 g1 g4
                      go_wp2
                      go_roundw
                      case rel => exact ⟨lc, ld, HI5.out.dr (((Dr.refl _).drewN _).drewN _), HI6.out.dr (((Dr.refl _).drewN _).drewN _), (HD2.out.drewN _).drewN _, HS⟩
                      case measure => simp [lenOf]; omega
                    · have hb : (c == d) = false := by simp [hcd]
                      have HE2 := hid (show lostA A B = n5 ∧ lostB A B = n6 by unfold lostA lostB lostL; rw [HC2.out]; have h := swp_ne (l := lc) (r := ld) hcd; rw [HN.out.1, HN.out.2] at h; exact h)
                      clear hcd
                      go_wp2_with fail
                      go_quiet (fail)
                      clear f1 f4 g1 g4
                      go_wp2
                      go_ret3
                      exact ⟨bel_step HB3.out ((HD2.out.drewN _).below _), .inr ⟨HE.out, by rw [HF.out.1, HF.out.2, HE2.out.1, HE2.out.2]; rfl⟩⟩
            · obtain ⟨g1, o1, rfl, n1⟩ := hla.first
              obtain ⟨g4, o4, rfl, n4⟩ := hlb.first
              by_cases hab : a = b
              · have HT1 := hid (fun ao h => Sl.tail hla ao h)
                have HT4 := hid (fun ao h => Sl.tail hlb ao h)
                have HE2 := hid (show cutHead A B = cutHead la lb by rw [HC.out, hab]; exact cutHead_eq)
                have hb : (a == b) = true := by simp [hab]
                simp only [List.length_cons] at *
                clear hla hlb hab HC
                by_cases h1 : k1 = 1
                · subst h1
                  have hz1 : la.length = 0 := by omega
                  have HZ1 := hid hz1
                  clear hz1
                  by_cases h4 : k4 = 1
                  · subst h4
                    have HZ4 := hid (show lb.length = 0 by omega)
                    go_wp2_with fail
                    go_quiet (fail)
                    go_wp2_with fail
                    go_quiet (fail)
                    go_wp2
                    go_roundw
                    case rel => exact ⟨la, lb, (by first | exact Sl.zero HZ1.out _ _ (by omega) | exact (HT1.out _ (.inr rfl)).dr (((Dr.refl _).drewN _).drewN _)), (by first | exact Sl.zero HZ4.out _ _ (by omega) | exact (HT4.out _ (.inr rfl)).dr (((Dr.refl _).drewN _).drewN _)), (HD.out.drewN _).drewN _, HE2⟩
                    case measure => simp [lenOf]
                  · go_wp2_with fail
                    go_quiet (fail)
                    go_wp2_with fail
                    go_quiet (fail)
                    go_wp2
                    go_roundw
                    case rel => exact ⟨la, lb, (by first | exact Sl.zero HZ1.out _ _ (by omega) | exact (HT1.out _ (.inr rfl)).dr (((Dr.refl _).drewN _).drewN _)), (by first | exact Sl.zero HZ4.out _ _ (by omega) | exact (HT4.out _ (.inr rfl)).dr (((Dr.refl _).drewN _).drewN _)), (HD.out.drewN _).drewN _, HE2⟩
                    case measure => simp [lenOf]
                · by_cases h4 : k4 = 1
                  · subst h4
                    have HZ4 := hid (show lb.length = 0 by omega)
                    go_wp2_with fail
                    go_quiet (fail)
                    go_wp2_with fail
                    go_quiet (fail)
                    go_wp2
                    go_roundw
                    case rel => exact ⟨la, lb, (by first | exact Sl.zero HZ1.out _ _ (by omega) | exact (HT1.out _ (.inr rfl)).dr (((Dr.refl _).drewN _).drewN _)), (by first | exact Sl.zero HZ4.out _ _ (by omega) | exact (HT4.out _ (.inr rfl)).dr (((Dr.refl _).drewN _).drewN _)), (HD.out.drewN _).drewN _, HE2⟩
                    case measure => simp [lenOf]
                  · go_wp2_with fail
                    go_quiet (fail)
                    go_wp2_with fail
                    go_quiet (fail)
                    go_wp2
                    go_roundw
                    case rel => exact ⟨la, lb, (by first | exact Sl.zero HZ1.out _ _ (by omega) | exact (HT1.out _ (.inr rfl)).dr (((Dr.refl _).drewN _).drewN _)), (by first | exact Sl.zero HZ4.out _ _ (by omega) | exact (HT4.out _ (.inr rfl)).dr (((Dr.refl _).drewN _).drewN _)), (HD.out.drewN _).drewN _, HE2⟩
                    case measure => simp [lenOf]
              · have HFin : Hid (∃ lc ld : List Int, Sl 1 wr (.slice (some ⟨g1, o1, none⟩) (la.length + 1) k1) lc.length (ints lc) ∧ Sl 1 wr (.slice (some ⟨g4, o4, none⟩) (lb.length + 1) k4) ld.length (ints ld) ∧ cutHead A B = (lc, ld)) := hid ⟨a :: la, b :: lb, hla, hlb, HC.out.trans (cutHead_ne hab)⟩
                have hb : (a == b) = false := by simp [hab]
                have hn0 : (a :: la).length = la.length + 1 := rfl
                have hn1 : (b :: lb).length = lb.length + 1 := rfl
                rw [hn0, hn1] at *
                clear hla hlb hab hn0 hn1
                go_wp2_with fail
                go_quiet (fail)
                go_wp2_with fail
                clear hk1 hk4 hk1m hk4m
                clear HC n1 n4 hb
                go_loopw [14, 16] (fun va vb wr => ∃ la lb : List Int, Sl 1 wr va la.length (ints la) ∧ Sl 1 wr vb lb.length (ints lb) ∧ Dr w3 wr ∧ Hid (swp (cutHead A B) = swp (la, lb))) (fun va _ _ => lenOf va)
                case atStart =>
                  obtain ⟨la', lb', h1, h2, h3⟩ := HFin.out
                  exact ⟨la', lb', h1.dr (Dr.drewN (Dr.refl _) _), h2.dr (Dr.drewN (Dr.refl _) _), HD.out.drewN _, hid (by rw [h3])⟩
                case round =>
                  obtain ⟨lc, ld, hlc, hld, hD2, HC2⟩ := hrel
                  have HD2 := hid hD2
                  have HLC := hid hlc
                  have HLD := hid hld
                  obtain ⟨a5, k5, rfl, hk5, hk5m⟩ := hlc.lens
                  obtain ⟨a6, k6, rfl, hk6, hk6m⟩ := hld.lens
                  clear hD2 HFin HLA HLB HD
                  rcases List.eq_nil_or_concat lc with rfl | ⟨lc, c, rfl⟩
                  · have HE2 := hid (show lostA A B = 0 ∧ lostB A B = ld.length by unfold lostA lostB lostL; rw [HC2.out]; exact swp_nil ld)
                    simp only [List.length_nil] at *
                    clear hlc hld
                    go_wp2_with fail
                    go_quiet (fail)
                    go_wp2
                    go_ret3
                    exact ⟨bel_step HB3.out ((HD2.out.drewN _).below _), .inr ⟨HE.out, by rw [HF.out.1, HF.out.2, HE2.out.1, HE2.out.2]; rfl⟩⟩
                  · rw [List.concat_eq_append] at *
                    have hn5' : (lc ++ [c]).length = lc.length + 1 := by simp
                    generalize hn5 : (lc ++ [c]).length = n5 at *
                    rcases List.eq_nil_or_concat ld with rfl | ⟨ld, d, rfl⟩
                    · have HE2 := hid (show lostA A B = n5 ∧ lostB A B = 0 by unfold lostA lostB lostL; rw [HC2.out]; have h := swp_nil2 (lc ++ [c]); rw [hn5] at h; exact h)
                      simp only [List.length_nil] at *
                      clear hlc hld
                      have h0 : 0 < n5 := by omega
                      clear hn5 hn5'
                      go_wp2_with fail
                      go_quiet (fail)
                      go_wp2
                      go_ret3
                      exact ⟨bel_step HB3.out ((HD2.out.drewN _).below _), .inr ⟨HE.out, by rw [HF.out.1, HF.out.2, HE2.out.1, HE2.out.2]; rfl⟩⟩
                    · rw [List.concat_eq_append] at *
                      have hn6' : (ld ++ [d]).length = ld.length + 1 := by simp
                      generalize hn6 : (ld ++ [d]).length = n6 at *
                      have f1 : IntKind.i64.wrap ((n5 : Int) - 1) = (n5 : Int) - 1 := IntWalk.i64_in _ (by omega)
                      have f2 : (0 : Int) ≤ (n5 : Int) - 1 := by omega
                      have f3 : (n5 : Int) - 1 < n5 := by omega
                      have f4 : ((n5 : Int) - 1).toNat = n5 - 1 := by omega
                      have f5 : (1 : Int) ≤ (n5 : Int) := by omega
                      have f6 : (n5 : Int) - 1 ≤ (k5 : Int) := by omega
                      have f7 : 0 < n5 := by omega
                      have g1 : IntKind.i64.wrap ((n6 : Int) - 1) = (n6 : Int) - 1 := IntWalk.i64_in _ (by omega)
                      have g2 : (0 : Int) ≤ (n6 : Int) - 1 := by omega
                      have g3 : (n6 : Int) - 1 < n6 := by omega
                      have g4 : ((n6 : Int) - 1).toNat = n6 - 1 := by omega
                      have g5 : (1 : Int) ≤ (n6 : Int) := by omega
                      have g6 : (n6 : Int) - 1 ≤ (k6 : Int) := by omega
                      have g7 : 0 < n6 := by omega
                      have HI5 := hid (Sl.init hn5' hlc)
                      have HI6 := hid (Sl.init hn6' hld)
                      obtain ⟨b5, o5, rfl, m5⟩ := Sl.last hn5' hlc
                      obtain ⟨b6, o6, rfl, m6⟩ := Sl.last hn6' hld
                      have HN := hid (And.intro hn5 hn6)
                      clear hlc hld hn5 hn6 hn5' hn6'
                      by_cases hcd : c = d
                      · have hb : (c == d) = true := by simp [hcd]
                        have HS := hid (show swp (cutHead A B) = swp (lc, ld) by rw [HC2.out, hcd]; exact swp_last)
                        clear hcd
                        go_wp2_with fail
                        go_quiet (fail)
                        go_wp2_with fail
                        go_quiet (fail)
                        clear f1 f4 g1 g4
                        go_wp2
                        go_roundw
                        case rel => exact ⟨lc, ld, HI5.out.dr (((Dr.refl _).drewN _).drewN _), HI6.out.dr (((Dr.refl _).drewN _).drewN _), (HD2.out.drewN _).drewN _, HS⟩
                        case measure => simp [lenOf]; omega
                      · have hb : (c == d) = false := by simp [hcd]
                        have HE2 := hid (show lostA A B = n5 ∧ lostB A B = n6 by unfold lostA lostB lostL; rw [HC2.out]; have h := swp_ne (l := lc) (r := ld) hcd; rw [HN.out.1, HN.out.2] at h; exact h)
                        clear hcd
                        go_wp2_with fail
                        go_quiet (fail)
                        clear f1 f4 g1 g4
                        go_wp2
                        go_ret3
                        exact ⟨bel_step HB3.out ((HD2.out.drewN _).below _), .inr ⟨HE.out, by rw [HF.out.1, HF.out.2, HE2.out.1, HE2.out.2]; rfl⟩⟩
      · have hV1 : (V0 != 0) = true := by simp [hV0]
        have hT : rErr q ws [x, y] = V0 := by rw [HTwo.out, if_neg (by simp [hE]), if_neg (by simp [hW0])]
        have HT := hid hT
        clear hT
        subst hE hW0
        go_upto_region 7 with (go_at_call 43; refine (HCx.out _).mono ?_; clear HCx; rintro e w2 ⟨rfl, rfl⟩)
        go_wp2_with (go_at_call 43; refine (HCy.out _).mono ?_; clear HCy; rintro e w2 ⟨rfl, rfl⟩)
        go_ret3
        exact ⟨HBp.out, .inl ⟨by rw [HT.out]; exact hV0, by rw [HT.out]; rfl⟩⟩
    · have hW1 : (W0 != 0) = true := by simp [hW0]
      have hT : rErr q ws [x, y] = W0 := by rw [HTwo.out, if_neg (by simp [hE]), if_pos hW0]
      have HT := hid hT
      clear hT
      subst hE
      go_wp2_with (go_at_call 43; refine (HCx.out _).mono ?_; clear HCx; rintro e w2 ⟨rfl, rfl⟩)
      go_ret3
      exact ⟨HBp.out, .inl ⟨by rw [HT.out]; exact hW0, by rw [HT.out]; rfl⟩⟩
  · have hE2 : (E0 != 0) = true := by simp [hE]
    have hT : rErr q ws [x, y] = E0 := by rw [HTwo.out, if_pos hE]
    have HT := hid hT
    clear hT
    go_wp2
    go_ret3
    exact ⟨HBp.out, .inl ⟨by rw [HT.out]; exact hE, by rw [HT.out]; rfl⟩⟩
end Go.Proofs.Ytalklhjmnoodeaa
