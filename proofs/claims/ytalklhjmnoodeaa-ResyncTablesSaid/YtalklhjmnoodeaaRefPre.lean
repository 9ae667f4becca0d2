/-
  The reference's prefix codes; the list of all proper beginnings.
  No condition beyond the words lying in a slice.
-/
import Derived.Test.YtalklhjmnoodeaaRef33
import Derived.Test.YtalklhjmnoodeaaPBuildL
import Derived.Test.YtalklhjmnoodeaaPAuto
import Derived.Deep.QuietTactic
namespace Go.Proofs.Ytalklhjmnoodeaa
open Go.RowKit Go.Deep
set_option linter.unusedVariables false

set_option maxRecDepth 100000 in
set_option maxHeartbeats 2000000 in
theorem rprefix_any (q : Int) (v : Value) (ws : List ByteArray) (w : World) (hl : Sl 1 w v ws.length (strs ws)) :
    Calls Try.prog 57 #[.agg #[.int .i64 q, v]] w fun e w' => e = .returned (.tuple #[.bool (decide (codeErr q ws = 0) && freeB ws), .int .i64 (if codeErr q ws = 0 then 0 else 1)]) ∧ Below w.heap.size w w' := by
  have HL := hid hl
  have HCk := hid (fun X h => rccheck_any q v ws X h)
  obtain ⟨ao, cap, rfl, _, hl1, hl2, hl3⟩ := hl
  clear hl3
  by_cases hE : codeErr q ws = 0
  · rw [hE] at HCk
    rw [if_pos hE, decide_eq_true hE, Bool.true_and]
    clear hE
    go_enter Try.func57, Try.ntmps57
    go_upto_region 1 with fail
    obtain ⟨w0, hw0⟩ : ∃ w0, w.alloc (.cells #[.int .i64 q, .slice ao ws.length cap] 24) = w0 := ⟨_, rfl⟩
    obtain ⟨hb0, c0, c1⟩ := boxed hw0
    rw [hw0]
    clear hw0
    have HB0 := hid hb0
    go_upto_region 4 with (go_at_call 79; refine (HCk.out _ (HL.out.below HB0.out)).mono ?_; rintro e w1 ⟨rfl, hb1⟩; have c0 := keeps hb1 c0; have c1 := keeps hb1 c1)
    have HB1 := hid (bel_step HB0.out hb1)
    have HC1 := hid c1
    have HL1 := hid (HL.out.below HB1.out)
    clear HCk hb0 hb1 c0 HB0 HL
    go_loopw [4] (fun i wr => ∃ m : Nat, m ≤ ws.length ∧ i = .int .i64 m ∧ Dr w1 wr ∧ Hid (∀ (j k : Nat) (x y : ByteArray), j < m → ws[j]? = some x → ws[k]? = some y → j ≠ k → begW x y = false)) (fun i _ => ws.length - (intOf i).toNat)
    case atStart => exact ⟨0, Nat.zero_le _, rfl, Dr.refl _, hid (fun j k x y h => by omega)⟩
    case round =>
      obtain ⟨m, hm, rfl, hD, HK⟩ := hrel
      have HD := hid hD
      have c1 := keeps (hD.below _) HC1.out
      clear hD
      by_cases hlt : m < ws.length
      · obtain ⟨x, hx⟩ := some_of_lt hlt
        have HX := hid hx
        clear hx
        go_wp2_with fail
        clear c1
        go_loopw [5] (fun i w2 => ∃ n : Nat, n ≤ ws.length ∧ i = .int .i64 n ∧ Dr w1 w2 ∧ Hid (∀ (k : Nat) (y : ByteArray), k < n → ws[k]? = some y → m ≠ k → begW x y = false)) (fun i _ => ws.length - (intOf i).toNat)
        case atStart => exact ⟨0, Nat.zero_le _, rfl, HD.out, hid (fun k y h => by omega)⟩
        case round =>
          obtain ⟨n, hn, rfl, hD2, HN⟩ := hrel
          have HD2 := hid hD2
          have c1 := keeps (hD2.below _) HC1.out
          clear hD2 HD
          by_cases hlt2 : n < ws.length
          · obtain ⟨y, hy⟩ := some_of_lt hlt2
            obtain ⟨b, o, rfl, cx⟩ := (HL1.out.dr HD2.out).cell (strs_get HX.out)
            obtain ⟨b2, o2, e2, cy⟩ := (HL1.out.dr HD2.out).cell (strs_get hy)
            simp only [Option.some.injEq, Addr.mk.injEq, and_true] at e2
            obtain ⟨rfl, rfl⟩ := e2
            have HY := hid hy
            clear hy
            by_cases hmn : m = n
            · have hb : ((m : Int) != (n : Int)) = false := by simp [hmn]
              have HM := hid hmn
              clear hmn
              go_upto_region 9 with fail
              go_quiet (fail)
              clear cx cy c1
              go_wp2
              go_roundw
              case rel => exact ⟨n + 1, by omega, by go_num, HD2.out.drewN _, hid (fun k y' hk hy' hne => HN.out k y' (by have := HM.out; omega) hy' hne)⟩
              case measure => simp [intOf]; omega
            · have hb : ((m : Int) != (n : Int)) = true := by simp; omega
              have HM := hid hmn
              clear hmn
              have HBg := hid (fun X => rbegins_any x y X)
              cases hbw : begW x y
              · have HBW := hid hbw
                rw [hbw] at HBg
                clear hbw
                go_upto_region 9 with fail
                go_quiet ((go_at_call 80; exact quietS (HBg.out _)))
                clear cx cy c1
                go_wp2
                go_roundw
                case rel => exact ⟨n + 1, by omega, by go_num, HD2.out.drewN _, hid (fun k y' hk hy' hne => by
                  by_cases e : k = n
                  · subst e
                    have h2 := HY.out
                    rw [hy'] at h2
                    rw [Option.some.inj h2]
                    exact HBW.out
                  · exact HN.out k y' (by omega) hy' hne)⟩
                case measure => simp [intOf]; omega
              · have HF := hid (freeB_hit HX.out HY.out HM.out hbw)
                rw [hbw] at HBg
                clear hbw
                go_upto_region 9 with fail
                go_quiet ((go_at_call 80; exact quietS (HBg.out _)))
                clear cx cy c1
                go_wp2
                go_ret2
                exact ⟨by rw [HF.out]; rfl, bel_step HB1.out ((HD2.out.drewN _).below _)⟩
          · go_wp2
            go_roundw
            case rel => exact ⟨m + 1, by omega, by go_num, HD2.out, hid (fun j k x' y hj hx' hy hne => by
              by_cases e : j = m
              · subst e
                have h2 := HX.out
                rw [hx'] at h2
                rw [Option.some.inj h2]
                exact HN.out k y (by have := lt_of_some hy; omega) hy hne
              · exact HK.out j k x' y (by omega) hx' hy hne)⟩
            case measure => simp [intOf]; omega
      · have HF := hid (show freeB ws = true from freeB_all fun j k x y hj => HK.out j k x y (by omega))
        go_wp2
        go_ret2
        exact ⟨by rw [HF.out]; rfl, bel_step HB1.out (HD.out.below _)⟩
  · have hE2 : (codeErr q ws != 0) = true := by simp [hE]
    rw [if_neg hE, decide_eq_false hE, Bool.false_and]
    generalize codeErr q ws = E at *
    clear hE
    go_enter Try.func57, Try.ntmps57
    go_wp2_with (go_at_call 79; refine (HCk.out _ (HL.out.below (bel_alloc _ _))).mono ?_; rintro e w1 ⟨rfl, hb1⟩)
    go_ret2
    exact ⟨rfl, bel_step (bel_alloc _ _) hb1⟩
end Go.Proofs.Ytalklhjmnoodeaa
