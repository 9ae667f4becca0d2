/-
  groovelaw45.ResyncSynchronizes: a synchronizing word leads from every state to 0, and no word before it of up to 4 letters does.
  No condition beyond the words lying in a slice.
-/
import Derived.Test.YtalklhjmnoodeaaAwake45
import Derived.Test.YtalklhjmnoodeaaLawMach
import Derived.Test.YtalklhjmnoodeaaParRun
import Derived.Test.YtalklhjmnoodeaaSyncRes
import Derived.Test.YtalklhjmnoodeaaWordAll
namespace Go.Proofs.Ytalklhjmnoodeaa
open Go.RowKit Go.Deep
set_option linter.unusedVariables false

theorem rsB_all {ws : List ByteArray} {x : ByteArray} {k : Nat} (hk : sizeW ws ≤ k) (h : ∀ s < k, runN (nxN ws) s x.data.toList = 0) : rsB ws x = true := by
  unfold rsB
  rw [List.all_eq_true]
  intro s hs
  have := h s (by have := List.mem_range.1 hs; omega)
  simp [this]
theorem rsB_miss {ws : List ByteArray} {x : ByteArray} {s : Nat} (hs : s < sizeW ws) (h : ¬ runN (nxN ws) s x.data.toList = 0) : rsB ws x = false := by
  cases hb : rsB ws x with
  | false => rfl
  | true =>
    unfold rsB at hb
    have := List.all_eq_true.1 hb s (List.mem_range.2 hs)
    exact absurd (beq_iff_eq.1 this) h
set_option maxRecDepth 100000 in
set_option maxHeartbeats 2000000 in
theorem resets_any (g Q : Nat) (ws : List ByteArray) (aS aN aE : Option Addr) (cS cN cE : Nat) (x : ByteArray) (w : World)
    (hp : w.cell? ⟨g, 0, none⟩ = some (.int .i64 (Q : Int)) ∧ w.cell? ⟨g, 1, none⟩ = some (.slice aS (sizeW ws) cS) ∧ w.cell? ⟨g, 2, none⟩ = some (.slice aN (sizeW ws) cN) ∧ w.cell? ⟨g, 3, none⟩ = some (.slice aE (sizeW ws) cE))
    (hP : PVal w (.slice aS (sizeW ws) cS) (.slice aN (sizeW ws) cN) (.slice aE (sizeW ws) cE) (sizeW ws) Q (stW ws) (nxI ws) (emI ws)) (hA : aErr Q ws = 0) (hn : sizeW ws ≤ 1000) (hx : okWord Q x = true) (hz : x.size ≤ 65536) :
    Calls Try.prog 33 #[.string x, .pointer (some ⟨g, 0, none⟩)] w fun e w' => e = .returned (.bool (rsB ws x)) ∧ Below w.heap.size w w' := by
  have hm := mach_of hA
  have hq2 := hm.q2
  have hq16 := hm.q16
  have hwx : wordErr Q x = 0 := wordErr_zero.2 ⟨by omega, by omega, hz, hx⟩
  have HR := hid (fun (s : Nat) (X : World) h hs => parRun_any Q ws (.slice aS (sizeW ws) cS) (.slice aN (sizeW ws) cN) (.slice aE (sizeW ws) cE) s x X h hA hs hn hwx)
  obtain ⟨a', c', hv2, hcN, hcN2⟩ := hP.nx.slice
  simp only [Value.slice.injEq, true_and] at hv2
  rw [← hv2.2] at hcN hcN2
  clear hv2
  have HP := hid hP
  have HPc := hid hp
  obtain ⟨p0, p1, p2, p3⟩ := hp
  clear hm hP hA hx hwx
  go_enter Try.func33, Try.ntmps33
  go_wp2_with fail
  clear p0 p1 p2 p3
  go_loopw [11] (fun i wr => ∃ s : Nat, s ≤ sizeW ws ∧ i = .int .i64 s ∧ Below w.heap.size w wr ∧ Hid (∀ s' < s, runN (nxN ws) s' x.data.toList = 0)) (fun i _ => sizeW ws - (intOf i).toNat)
  case atStart => exact ⟨0, Nat.zero_le _, rfl, Below.refl _ _, hid (fun s' h => by omega)⟩
  case round =>
    obtain ⟨s, hs, rfl, hb, HK⟩ := hrel
    have HB := hid hb
    by_cases hlt : s < sizeW ws
    · have p0 := keeps hb HPc.out.1
      have p1 := keeps hb HPc.out.2.1
      have p2 := keeps hb HPc.out.2.2.1
      have p3 := keeps hb HPc.out.2.2.2
      have HRs := hid (fun X h => HR.out s X h hlt)
      clear hb
      by_cases hT : runN (nxN ws) s x.data.toList = 0
      · have HK2 := hid (show ∀ s' < s + 1, runN (nxN ws) s' x.data.toList = 0 from fun s' h => by
          by_cases e : s' = s
          · rw [e]; exact hT
          · exact HK.out s' (by omega))
        generalize runN (nxN ws) s x.data.toList = T at *
        have hb0 : ((T : Int) != 0) = false := by simp [hT]
        clear hT
        go_wp2_with (go_at_call 30; refine (HRs.out _ (HP.out.below HB.out)).mono ?_; rintro e w2 ⟨u, rfl, ho2, hb2⟩; obtain ⟨a2, k2, rfl⟩ := own_slice ho2; clear ho2)
        go_roundw
        case rel => exact ⟨s + 1, by omega, by go_num, bel_step HB.out hb2, HK2⟩
        case measure => simp [intOf]; omega
      · have HMs := hid (rsB_miss hlt hT)
        generalize runN (nxN ws) s x.data.toList = T at *
        have hb0 : ((T : Int) != 0) = true := by simp; omega
        clear hT
        go_wp2_with (go_at_call 30; refine (HRs.out _ (HP.out.below HB.out)).mono ?_; rintro e w2 ⟨u, rfl, ho2, hb2⟩; obtain ⟨a2, k2, rfl⟩ := own_slice ho2; clear ho2)
        go_ret
        exact ⟨by rw [HMs.out]; rfl, bel_step HB.out hb2⟩
    · have HMs := hid (rsB_all (ws := ws) (x := x) (k := s) (by omega) HK.out)
      go_wp2
      go_ret
      exact ⟨by rw [HMs.out]; rfl, HB.out⟩

set_option maxRecDepth 100000 in
set_option maxHeartbeats 4000000 in
theorem resyncSynchronizes_any (q : Int) (v : Value) (ws : List ByteArray) (w : World) (hl : Sl 1 w v ws.length (strs ws)) :
    Calls Try.prog 10 #[.agg #[.int .i64 q, v]] w fun e w' => e = .returned (.bool true) ∧ Below w.heap.size w w' := by
  have HL := hid hl
  have HMa := hid (fun X h => mach_any q v ws X h)
  have HSy := hid (fun X h => sync_any q v ws X h)
  have HAw := hid awake_any
  obtain ⟨ao, cap, rfl, _, hl1, hl2, hl3⟩ := hl
  clear hl3
  go_enter Try.func10, Try.ntmps10
  go_upto_region 1 with fail
  obtain ⟨w0, hw0⟩ : ∃ w0, w.alloc (.cells #[.int .i64 q, .slice ao ws.length cap] 24) = w0 := ⟨_, rfl⟩
  obtain ⟨hb0, c0, c1⟩ := boxed hw0
  rw [hw0]
  have HB0 := hid hb0
  clear hw0 hb0
  cases hM : machB q ws
  · have HM := hid hM
    go_wp2_with (first
      | (go_at_call 19; refine (HMa.out _ (HL.out.below HB0.out)).mono ?_; rintro e w1 (⟨_, ⟨a, aS, aN, aE, nS, cS, nN, cN, nE, cE, rfl⟩, hb1⟩ | ⟨h0, _⟩); rotate_left; (exact absurd (HM.out.symm.trans h0) (by decide)); have HB1 := hid (bel_step HB0.out hb1))
      | (go_at_call 12; refine (HAw.out _).mono ?_; rintro e w2 ⟨rfl, hb2⟩))
    go_ret
    exact ⟨rfl, bel_step (bel_step HB1.out (bel_alloc _ _)) hb2⟩
  · obtain ⟨hA, h16⟩ := machB_true hM
    have hm := mach_of hA
    have HM := hid hM
    obtain ⟨Q, rfl⟩ : ∃ Q : Nat, q = Q := ⟨q.toNat, by have := hm.q2; omega⟩
    have HMm := hid hm
    have HAe := hid hA
    have hq16 := hm.q16
    have hq2 := hm.q2
    clear hM hm hA
    go_upto_region 2 with (go_at_call 19; refine (HMa.out _ (HL.out.below HB0.out)).mono ?_; rintro e w1 (⟨h0, _⟩ | ⟨_, vS, vN, vE, rfl, hres, hb1⟩); (exact absurd (HM.out.symm.trans h0) (by decide)); have HB1 := hid (bel_step HB0.out hb1); have c0 := keeps hb1 c0; have c1 := keeps hb1 c1; obtain ⟨aS, cS, aN, cN, aE, cE, rfl, rfl, rfl⟩ := hres.slices)
    obtain ⟨wp, hwp⟩ : ∃ wp, w1.alloc (.cells #[.int .i64 (Q : Int), .slice aS (sizeW ws) cS, .slice aN (sizeW ws) cN, .slice aE (sizeW ws) cE] 36) = wp := ⟨_, rfl⟩
    obtain ⟨hbp, p0, p1, p2, p3⟩ := boxP hwp
    rw [hwp]
    have HBp := hid (bel_step HB1.out hbp)
    have c0 := keeps hbp c0
    have c1 := keeps hbp c1
    have HPv := hid (show PVal wp (.slice aS (sizeW ws) cS) (.slice aN (sizeW ws) cN) (.slice aE (sizeW ws) cE) (sizeW ws) Q (stW ws) (nxI ws) (emI ws) by have h := (hres.keep hbp).pval (by omega); rw [Int.toNat_natCast] at h; exact h)
    clear hwp hbp hb1 hres
    generalize w1.heap.size = g at *
    have HCc := hid c0
    have HRs := hid (fun (x : ByteArray) (X : World) h1 h2 h3 h4 => resets_any g Q ws aS aN aE cS cN cE x X h1 h2 HAe.out (by omega) h3 h4)
    have hS0 : sErr Q ws = 0 := by
      rw [sErr, if_neg, if_neg (by omega)]
      rw [rErr, if_neg (by simp [HAe.out]), if_neg (by omega)]
      exact fun h => h rfl
    have HS0 := hid hS0
    clear hS0
    go_upto_region 5 with (go_at_call 25; refine (HSy.out _ (HL.out.below HBp.out)).mono ?_; rintro e wS ⟨hbS, ⟨hne, _⟩ | ⟨_, rfl⟩⟩; (exact absurd HS0.out hne); have c0 := keeps hbS c0; have p0 := keeps hbS p0; have p1 := keeps hbS p1; have p2 := keeps hbS p2; have p3 := keeps hbS p3; have HBS := hid (bel_step HBp.out hbS); have HPv := hid (HPv.out.below hbS); clear hbS)
    have HNo := hid (fun h x hx => rs_none (ws := ws) (q := Q) HMm.out.lt HMm.out.pos h (x := x) hx)
    have HYe := hid (fun l h => rs_found (ws := ws) (q := Q) (l := l) HMm.out.lt HMm.out.pos (by omega) h16 h)
    clear HSy HS0 c1
    cases ho : syncN (nxN ws) (sizeW ws) Q with
    | none =>
      have HNo := hid (HNo.out ho)
      simp only [syncS, syncB, Option.isSome_none]
      clear HYe ho
      go_upto_region 10 with fail
      have HPc := hid (And.intro p0 (And.intro p1 (And.intro p2 p3)))
      have HCc := hid c0
      clear p0 p1 p2 p3 c0
      go_wp2_with fail
      go_loopw [9] (fun i wr => ∃ m : Nat, m ≤ 5 ∧ i = .int .i64 m ∧ Below wS.heap.size wS wr) (fun i _ => 5 - (intOf i).toNat)
      case atStart => exact ⟨0, by omega, rfl, Below.refl _ _⟩
      case round =>
        obtain ⟨m, hm, rfl, hb⟩ := hrel
        rename World => wm
        have HBm := hid hb
        have c0 := keeps hb HCc.out
        clear hb
        by_cases hlt : m < 5
        · go_upto_region 13 with fail
          go_wp2_with fail
          go_at_call 34
          refine (wall_any Q m _ (by omega) (by omega) (by omega)).mono ?_
          rintro e w3 ⟨hb3, h3⟩
          have HB3 := hid (show Below wS.heap.size wS w3 from bel_step HBm.out hb3)
          clear hb3
          rcases h3 with rfl | ⟨u, L, rfl, hS, hA⟩
          · go_wp2_with (go_at_call 12; refine (HAw.out _).mono ?_; rintro e wa ⟨rfl, hba⟩)
            go_ret
            exact ⟨rfl, bel_step (bel_step HBS.out HB3.out) hba⟩
          · have HA := hid hA
            obtain ⟨aL, cL, rfl, _, hL1, hL2, _⟩ := id hS
            have HSl := hid hS
            clear hA hS c0
            go_wp2_with fail
            go_loopw [62] (fun i wr => ∃ j : Nat, j ≤ L.length ∧ i = .int .i64 j ∧ Below w3.heap.size w3 wr) (fun i _ => L.length - (intOf i).toNat)
            case atStart => exact ⟨0, Nat.zero_le _, rfl, Below.refl _ _⟩
            case round =>
              obtain ⟨j, hj, rfl, hb4⟩ := hrel
              have HB4 := hid hb4
              have HBall := hid (show Below wS.heap.size wS wr from bel_step HB3.out hb4)
              by_cases hjl : j < L.length
              · obtain ⟨x, hx⟩ := some_of_lt hjl
                obtain ⟨bL, oL, rfl, cx⟩ := (HSl.out.below hb4).cell (strs_get hx)
                have HX := hid hx
                have p0 := keeps HBall.out HPc.out.1
                have p1 := keeps HBall.out HPc.out.2.1
                have p2 := keeps HBall.out HPc.out.2.2.1
                have p3 := keeps HBall.out HPc.out.2.2.2
                clear hb4 hx
                have hrx := HNo.out x (HA.out x (List.mem_of_getElem? HX.out)).1
                go_wp2_with (go_at_call 33; refine (HRs.out x _ (And.intro p0 (And.intro p1 (And.intro p2 p3))) (HPv.out.below (bel_step HBall.out (Below.refl _ _))) (HA.out x (List.mem_of_getElem? HX.out)).1 (by have := (HA.out x (List.mem_of_getElem? HX.out)).2; omega)).mono ?_; rintro e w5 ⟨rfl, hb5⟩; rw [hrx])
                go_roundw
                case rel => exact ⟨j + 1, by omega, by go_num, bel_step HB4.out hb5⟩
                case measure => simp [intOf]; omega
              · clear hb4
                go_wp2
                go_roundw
                case rel => exact ⟨m + 1, by omega, by go_num, HBall.out⟩
                case measure => simp [intOf]; omega
        · go_wp2_with (go_at_call 12; refine (HAw.out _).mono ?_; rintro e wa ⟨rfl, hba⟩)
          go_ret
          exact ⟨rfl, bel_step (bel_step HBS.out HBm.out) hba⟩
    | some l =>
      obtain ⟨hy1, hy2, hy3, hy4, hy5⟩ := HYe.out l ho
      simp only [syncS, syncB, Option.isSome_some]
      rw [← hy4] at hy5
      have HMi := hid hy5
      have HY2 := hid (And.intro hy2 hy3)
      clear HYe HNo ho hy4 hy5 hy2 hy3
      generalize toStr l = z at *
      go_upto_region 10 with (go_at_call 33; refine (HRs.out z _ (And.intro p0 (And.intro p1 (And.intro p2 p3))) HPv.out HY2.out.1 HY2.out.2).mono ?_; rintro e wT ⟨rfl, hbT⟩; rw [hy1]; have c0 := keeps hbT c0; have p0 := keeps hbT p0; have p1 := keeps hbT p1; have p2 := keeps hbT p2; have p3 := keeps hbT p3; have HBS := hid (bel_step HBS.out hbT); have HPv := hid (HPv.out.below hbT); clear hbT)
      have HPc := hid (And.intro p0 (And.intro p1 (And.intro p2 p3)))
      have HCc := hid c0
      clear p0 p1 p2 p3 c0 hy1
      rename World => wS
      go_wp2_with fail
      go_loopw [9] (fun i wr => ∃ m : Nat, m ≤ 5 ∧ i = .int .i64 m ∧ Below wS.heap.size wS wr) (fun i _ => 5 - (intOf i).toNat)
      case atStart => exact ⟨0, by omega, rfl, Below.refl _ _⟩
      case round =>
        obtain ⟨m, hm, rfl, hb⟩ := hrel
        rename World => wm
        have HBm := hid hb
        have c0 := keeps hb HCc.out
        clear hb
        by_cases hlt : m < 5
        · go_upto_region 13 with fail
          go_wp2_with fail
          go_at_call 34
          refine (wall_any Q m _ (by omega) (by omega) (by omega)).mono ?_
          rintro e w3 ⟨hb3, h3⟩
          have HB3 := hid (show Below wS.heap.size wS w3 from bel_step HBm.out hb3)
          clear hb3
          rcases h3 with rfl | ⟨u, L, rfl, hS, hA⟩
          · go_wp2_with (go_at_call 12; refine (HAw.out _).mono ?_; rintro e wa ⟨rfl, hba⟩)
            go_ret
            exact ⟨rfl, bel_step (bel_step HBS.out HB3.out) hba⟩
          · have HA := hid hA
            obtain ⟨aL, cL, rfl, _, hL1, hL2, _⟩ := id hS
            have HSl := hid hS
            clear hA hS c0
            go_wp2_with fail
            go_loopw [62] (fun i wr => ∃ j : Nat, j ≤ L.length ∧ i = .int .i64 j ∧ Below w3.heap.size w3 wr) (fun i _ => L.length - (intOf i).toNat)
            case atStart => exact ⟨0, Nat.zero_le _, rfl, Below.refl _ _⟩
            case round =>
              obtain ⟨j, hj, rfl, hb4⟩ := hrel
              have HB4 := hid hb4
              have HBall := hid (show Below wS.heap.size wS wr from bel_step HB3.out hb4)
              by_cases hjl : j < L.length
              · obtain ⟨x, hx⟩ := some_of_lt hjl
                obtain ⟨bL, oL, rfl, cx⟩ := (HSl.out.below hb4).cell (strs_get hx)
                have HX := hid hx
                have p0 := keeps HBall.out HPc.out.1
                have p1 := keeps HBall.out HPc.out.2.1
                have p2 := keeps HBall.out HPc.out.2.2.1
                have p3 := keeps HBall.out HPc.out.2.2.2
                clear hb4 hx
                have HX2 := hid (HA.out x (List.mem_of_getElem? HX.out))
                by_cases hc1 : z.size < x.size
                · have hg1 : decide ((z.size : Int) < (x.size : Int)) = true := by simp; omega
                  have hg1' : decide (z.size < x.size) = true := by simpa using hc1
                  go_wp2_with (go_at_call 12; refine (HAw.out _).mono ?_; rintro e wa ⟨rfl, hba⟩)
                  go_ret
                  exact ⟨rfl, bel_step (bel_step HBS.out HBall.out) hba⟩
                · have hg1 : decide (z.size < x.size) = false := by simpa using hc1
                  by_cases hc2 : x.size = z.size
                  · have hg2 : ((x.size : Int) == (z.size : Int)) = true := by simp [hc2]
                    cases hbl : Op.bytesLess x.toList z.toList
                    · go_wp2_with (go_at_call 12; refine (HAw.out _).mono ?_; rintro e wa ⟨rfl, hba⟩)
                      go_ret
                      exact ⟨rfl, bel_step (bel_step HBS.out HBall.out) hba⟩
                    · have hrx := HMi.out x HX2.out.1 (.inr ⟨hc2, by rw [← Lib.toList_data, ← Lib.toList_data]; exact hbl⟩)
                      clear hc2
                      go_wp2_with (go_at_call 33; refine (HRs.out x _ (And.intro p0 (And.intro p1 (And.intro p2 p3))) (HPv.out.below (bel_step HBall.out (Below.refl _ _))) (HA.out x (List.mem_of_getElem? HX.out)).1 (by have := (HA.out x (List.mem_of_getElem? HX.out)).2; omega)).mono ?_; rintro e w5 ⟨rfl, hb5⟩; rw [hrx])
                      go_roundw
                      case rel => exact ⟨j + 1, by omega, by go_num, bel_step HB4.out hb5⟩
                      case measure => simp [intOf]; omega
                  · have hg2 : ((x.size : Int) == (z.size : Int)) = false := by rw [beq_eq_false_iff_ne]; omega
                    have hrx := HMi.out x HX2.out.1 (.inl (by omega))
                    clear hc2
                    go_wp2_with (go_at_call 33; refine (HRs.out x _ (And.intro p0 (And.intro p1 (And.intro p2 p3))) (HPv.out.below (bel_step HBall.out (Below.refl _ _))) (HA.out x (List.mem_of_getElem? HX.out)).1 (by have := (HA.out x (List.mem_of_getElem? HX.out)).2; omega)).mono ?_; rintro e w5 ⟨rfl, hb5⟩; rw [hrx])
                    go_roundw
                    case rel => exact ⟨j + 1, by omega, by go_num, bel_step HB4.out hb5⟩
                    case measure => simp [intOf]; omega
              · clear hb4
                go_wp2
                go_roundw
                case rel => exact ⟨m + 1, by omega, by go_num, HBall.out⟩
                case measure => simp [intOf]; omega
        · go_wp2_with (go_at_call 12; refine (HAw.out _).mono ?_; rintro e wa ⟨rfl, hba⟩)
          go_ret
          exact ⟨rfl, bel_step (bel_step HBS.out HBm.out) hba⟩
end Go.Proofs.Ytalklhjmnoodeaa
