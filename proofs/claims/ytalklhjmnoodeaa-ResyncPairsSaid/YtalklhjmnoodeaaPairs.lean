/-
  groovelaw45.ResyncPairs: the table is symmetric, 0 for equal states, and otherwise one more than the greatest number behind the pair.
  No condition beyond the words lying in a slice.
-/
import Derived.Test.YtalklhjmnoodeaaAwake45
import Derived.Test.YtalklhjmnoodeaaLawMach
namespace Go.Proofs.Ytalklhjmnoodeaa
open Go.RowKit Go.Deep
set_option linter.unusedVariables false

theorem tab_zero {n q : Nat} {nx : Nat → Nat → Nat} {T : Nat → Nat → Int} (h : IsTab n q nx T) {s t : Nat} (hs : s < n) (ht : t < n) : T s t = 0 ↔ s = t := by
  by_cases e : s = t
  · subst e; simp [h.diag s hs]
  · simp only [e, iff_false]
    rcases h.num s hs t ht e with h1 | ⟨m, h1, h2⟩
    · omega
    · have := (mostK_some h1).1; omega
/-- While the letters are gone through. -/
def PairAt (nx : Nat → Nat → Nat) (T : Nat → Nat → Int) (s t a : Nat) (m : Int) (o : Bool) : Prop :=
  0 ≤ m ∧ m ≤ 1000000 ∧ (o = false → mostK nx T s t a = some m) ∧ (o = true → mostK nx T s t a = none)
theorem pairAt_start (nx : Nat → Nat → Nat) (T : Nat → Nat → Int) (s t : Nat) : PairAt nx T s t 0 0 false := ⟨by omega, by omega, fun _ => rfl, fun h => by cases h⟩
theorem pairAt_step {nx : Nat → Nat → Nat} {T : Nat → Nat → Int} {s t a : Nat} {m : Int} {o : Bool} (h : PairAt nx T s t a m o) (hk : T (nx s a) (nx t a) ≤ 1000000) : PairAt nx T s t (a + 1) (max m (T (nx s a) (nx t a))) (o || decide (T (nx s a) (nx t a) < 0)) := by
  obtain ⟨h1, h2, h3, h4⟩ := h
  refine ⟨by omega, by omega, fun ho => ?_, fun ho => ?_⟩
  · simp only [Bool.or_eq_false_iff, decide_eq_false_iff_not] at ho
    exact mostK_good (h3 ho.1) ho.2
  · cases o with
    | true => exact mostK_none (h4 rfl)
    | false =>
      simp only [Bool.false_or, decide_eq_true_eq] at ho
      exact mostK_bad ho

set_option maxRecDepth 100000 in
set_option maxHeartbeats 4000000 in
theorem resyncPairs_any (q : Int) (v : Value) (ws : List ByteArray) (w : World) (hl : Sl 1 w v ws.length (strs ws)) :
    Calls Try.prog 4 #[.agg #[.int .i64 q, v]] w fun e w' => e = .returned (.bool true) ∧ Below w.heap.size w w' := by
  have HL := hid hl
  have HMa := hid (fun X h => mach_any q v ws X h)
  have HTa := hid (fun X h => rtable_any q v ws X h)
  have HAw := hid awake_any
  obtain ⟨ao, cap, rfl, _, hl1, hl2, hl3⟩ := hl
  clear hl3
  go_enter Try.func4, Try.ntmps4
  go_upto_region 1 with fail
  obtain ⟨w0, hw0⟩ : ∃ w0, w.alloc (.cells #[.int .i64 q, .slice ao ws.length cap] 24) = w0 := ⟨_, rfl⟩
  obtain ⟨hb0, c0, c1⟩ := boxed hw0
  rw [hw0]
  have HB0 := hid hb0
  clear hw0 hb0
  cases hM : machB q ws
  · have HM := hid hM
    go_wp2_with (first
      | (go_at_call 19; refine (HMa.out _ (HL.out.below HB0.out)).mono ?_; rintro e w1 (⟨_, ⟨a, aS, aN, aE, nS, cS, nN, cN, nE, cE, rfl⟩, hb1⟩ | ⟨h0, _⟩); rotate_left; (exact absurd (HM.out.symm.trans h0) (by decide)); have HB1 := hid (bel_step HB0.out hb1))
      | (go_at_call 12; refine (HAw.out _).mono ?_; rintro e w2 ⟨rfl, hb2⟩))
    go_ret
    exact ⟨rfl, bel_step (bel_step HB1.out (bel_alloc _ _)) hb2⟩
  · obtain ⟨hA, h16⟩ := machB_true hM
    have hr0 : rErr q ws [] = 0 := by rw [rErr, if_neg (by simp [hA]), if_neg (by omega)]; rfl
    have hm := mach_of hA
    have HM := hid hM
    obtain ⟨Q, rfl⟩ : ∃ Q : Nat, q = Q := ⟨q.toNat, by have := hm.q2; omega⟩
    have HMm := hid hm
    have hq16 := hm.q16
    clear hM hm
    go_upto_region 2 with (go_at_call 19; refine (HMa.out _ (HL.out.below HB0.out)).mono ?_; rintro e w1 (⟨h0, _⟩ | ⟨_, vS, vN, vE, rfl, hres, hb1⟩); (exact absurd (HM.out.symm.trans h0) (by decide)); have HB1 := hid (bel_step HB0.out hb1); have c0 := keeps hb1 c0; have c1 := keeps hb1 c1; obtain ⟨aS, cS, aN, cN, aE, cE, rfl, rfl, rfl⟩ := hres.slices)
    obtain ⟨wp, hwp⟩ : ∃ wp, w1.alloc (.cells #[.int .i64 (Q : Int), .slice aS (sizeW ws) cS, .slice aN (sizeW ws) cN, .slice aE (sizeW ws) cE] 36) = wp := ⟨_, rfl⟩
    obtain ⟨hbp, p0, p1, p2, p3⟩ := boxP hwp
    rw [hwp]
    have HBp := hid (bel_step HB1.out hbp)
    have HNx := hid (((hres.keep hbp).pval (by omega)).nat HMm.out).nx
    have c0 := keeps hbp c0
    have c1 := keeps hbp c1
    clear hwp hbp hb1 hres p0 p1 p3
    generalize w1.heap.size = g at *
    go_upto_region 5 with (go_at_call 20; refine (HTa.out _ (HL.out.below HBp.out)).mono ?_; rintro e w2 (⟨h0, _⟩ | ⟨_, u, T, rfl, hT, hMt, hb2⟩); (exact absurd hr0 h0); have HB2 := hid (bel_step HBp.out hb2); have HNx := hid (HNx.out.below hb2); have c0 := keeps hb2 c0; have p2 := keeps hb2 p2; obtain ⟨aT, cT, rfl, hcT, hcT2⟩ := hMt.slice)
    have HMt := hid hMt
    have HT := hid hT
    have hlo := fun s hs t ht => hT.low (s := s) (t := t) hs ht
    have hcl : Closed (sizeW ws) ((Q : Int)).toNat (nxN ws) := fun a _ b _ => HMm.out.lt a b
    have hbd := fun s hs t ht => tab_bound hcl hT.toPreTab (s := s) (t := t) hs ht
    have hsy := tab_symm hcl hT
    have HLo := hid hlo
    have HBd := hid hbd
    have HSy := hid hsy
    have HLt := hid HMm.out.lt
    clear hMt hT hlo hbd hsy hb2 hcl HTa HMa HL
    generalize hn : sizeW ws = n at *
    obtain ⟨NN, hNN⟩ : ∃ NN : Int, ((n * n : Nat) : Int) = NN := ⟨_, rfl⟩
    have hn2 : n * n ≤ 256 := by have := Nat.mul_le_mul h16 h16; omega
    have hmul : IntKind.i64.wrap ((n : Int) * (n : Int)) = NN := by
      rw [IntKind.wrap_i64, ← hNN, ← Int.natCast_mul]; omega
    have HNN := hid hNN
    have HMul := hid hmul
    have HN2 := hid (show NN ≤ 256 by omega)
    clear hNN hmul hn2
    go_wp2_with fail
    go_loopw [40] (fun i wr => ∃ k : Nat, k ≤ n ∧ i = .int .i64 k ∧ Dr w2 wr) (fun i _ => n - (intOf i).toNat)
    case atStart => exact ⟨0, Nat.zero_le _, rfl, Dr.refl _⟩
    case round =>
      obtain ⟨k, hk, rfl, hD⟩ := hrel
      have HD := hid hD
      by_cases hlt : k < n
      · obtain ⟨b, o, r, c, e1, n1, _⟩ := (HMt.out.dr hD).row hlt
        subst e1
        clear hD
        go_wp2
        go_roundw
        case rel => exact ⟨k + 1, by omega, by go_num, HD.out⟩
        case measure => simp [intOf]; omega
      · clear hD
        go_wp2_with fail
        go_loopw [52] (fun i wr => ∃ s : Nat, s ≤ n ∧ i = .int .i64 s ∧ Dr w2 wr) (fun i _ => n - (intOf i).toNat)
        case atStart => exact ⟨0, Nat.zero_le _, rfl, HD.out⟩
        case round =>
          obtain ⟨s, hs, rfl, hDs⟩ := hrel
          have HDs := hid hDs
          clear hDs HD
          by_cases hlts : s < n
          · go_wp2_with fail
            go_loopw [57] (fun i wr => ∃ t : Nat, t ≤ n ∧ i = .int .i64 t ∧ Dr w2 wr) (fun i _ => n - (intOf i).toNat)
            case atStart => exact ⟨0, Nat.zero_le _, rfl, HDs.out⟩
            case round =>
              obtain ⟨t, ht, rfl, hDt⟩ := hrel
              have HDt := hid hDt
              clear HDs
              by_cases hltt : t < n
              · obtain ⟨b, o, b1, o1, k1, e1, n1, n2⟩ := (HMt.out.dr hDt).cell hlts hltt
                obtain ⟨b', o', b2, o2, k2, e2, m1, m2⟩ := (HMt.out.dr hDt).cell hltt hlts
                subst e1
                simp only [Option.some.injEq, Addr.mk.injEq, and_true] at e2
                obtain ⟨rfl, rfl⟩ := e2
                rw [HSy.out t hltt s hlts] at m2
                have hA1 := HLo.out s hlts t hltt
                have hA2 := HBd.out s hlts t hltt
                rw [HNN.out] at hA2
                have hmul := HMul.out
                have hz := tab_zero HT.out hlts hltt
                have HEq := hid (fun h => HT.out.eq hlts hltt h)
                generalize hA : T s t = A at *
                have HA := hid hA
                clear hA hDt
                by_cases hst : s = t
                · have hb0 : (A == 0) = true := by simp [hz.2 hst]
                  have hb1 : ((s : Int) == (t : Int)) = true := by simp [hst]
                  clear hz hst
                  go_upto_region 19 with fail
                  go_quiet (fail)
                  clear hmul n1 n2 m1 m2
                  go_wp2
                  go_roundw
                  case rel => exact ⟨t + 1, by omega, by go_num, HDt.out.drewN _⟩
                  case measure => simp [intOf]; omega
                · have hb0 : (A == 0) = false := by rw [beq_eq_false_iff_ne]; exact fun h => hst (hz.1 h)
                  have hb1 : ((s : Int) == (t : Int)) = false := by rw [beq_eq_false_iff_ne]; omega
                  have HSt := hid hst
                  clear hz hst
                  go_upto_region 19 with fail
                  go_quiet (fail)
                  clear hmul n1 n2 m1 m2 hb0
                  have HDq := hid (HDt.out.drewN nq)
                  clear HDt
                  generalize wr.drewN nq = wq at *
                  have c0q := keeps (HDq.out.below _) c0
                  go_wp2_with fail
                  clear c0q hb1
                  go_loopw [11, 12, 119] (fun u p i wa => ∃ a : Nat, a ≤ Q ∧ i = .int .i64 a ∧ Dr w2 wa ∧ ∃ m o, u = .int .i64 m ∧ p = .bool o ∧ PairAt (nxN ws) T s t a m o) (fun _ _ i _ => Q - (intOf i).toNat)
                  case atStart => exact ⟨0, Nat.zero_le _, rfl, HDq.out, 0, false, rfl, rfl, pairAt_start _ _ _ _⟩
                  case round =>
                    obtain ⟨a, ha, rfl, hDa, m, oo, rfl, rfl, hPA⟩ := hrel
                    have HDa := hid hDa
                    clear HDq
                    by_cases hla : a < Q
                    · have p2a := keeps (hDa.below _) p2
                      obtain ⟨b1, o1, b2, o2, k2, e1, n1, n2⟩ := (HNx.out.dr hDa).cell hlts hla
                      obtain ⟨b3, o3, b4, o4, k4, e3, n3, n4⟩ := (HNx.out.dr hDa).cell hltt hla
                      subst e1
                      simp only [Option.some.injEq, Addr.mk.injEq, and_true] at e3
                      obtain ⟨rfl, rfl⟩ := e3
                      have hc1 := HLt.out s a
                      have hc2 := HLt.out t a
                      obtain ⟨b5, o5, b6, o6, k6, e5, n5, n6⟩ := (HMt.out.dr hDa).cell hc1 hc2
                      simp only [Option.some.injEq, Addr.mk.injEq, and_true] at e5
                      obtain ⟨rfl, rfl⟩ := e5
                      have hTT := HBd.out _ hc1 _ hc2
                      rw [HNN.out] at hTT
                      have hN2 := HN2.out
                      have HS := hid (pairAt_step hPA (show T (nxN ws s a) (nxN ws t a) ≤ 1000000 by omega))
                      clear hTT hN2 hPA
                      generalize nxN ws s a = x1 at *
                      generalize nxN ws t a = x2 at *
                      generalize T x1 x2 = K at *
                      clear hDa
                      cases oo
                      · go_upto_region 26 with fail
                        go_quiet (fail)
                        clear p2a n1 n2 n3 n4 n5 n6
                        go_wp2
                        go_roundw
                        case rel => exact ⟨a + 1, by omega, by go_num, HDa.out.drewN _, _, _, rfl, rfl, HS.out⟩
                        case measure => simp [intOf]; omega
                      · go_upto_region 26 with fail
                        go_quiet (fail)
                        clear p2a n1 n2 n3 n4 n5 n6
                        go_wp2
                        go_roundw
                        case rel => exact ⟨a + 1, by omega, by go_num, HDa.out.drewN _, _, _, rfl, rfl, HS.out⟩
                        case measure => simp [intOf]; omega
                    · have hPQ : PairAt (nxN ws) T s t Q m oo := (show a = Q by omega) ▸ hPA
                      have hEq := HEq.out HSt.out
                      rw [Int.toNat_natCast] at hEq
                      obtain ⟨hm0, hm1, hf, ht0⟩ := hPQ
                      obtain ⟨b3, o3, b4, o4, k4, e3, n3, n4⟩ := (HMt.out.dr hDa).cell hlts hltt
                      simp only [Option.some.injEq, Addr.mk.injEq, and_true] at e3
                      obtain ⟨rfl, rfl⟩ := e3
                      rw [HA.out] at n4
                      clear hDa hPA
                      cases oo
                      · rw [hf rfl] at hEq
                        have hEq : A = m + 1 := hEq
                        have hwk : IntKind.i64.wrap (m + 1) = m + 1 := by rw [IntKind.wrap_i64]; omega
                        have hb3 : decide (m + 1 < 0) = false := by simp; omega
                        clear hf ht0 HA HEq
                        subst hEq
                        go_wp2
                        go_roundw
                        case rel => exact ⟨t + 1, by omega, by go_num, HDa.out⟩
                        case measure => simp [intOf]; omega
                      · rw [ht0 rfl] at hEq
                        have hEq : A = -1 := hEq
                        clear hf ht0 HA HEq
                        subst hEq
                        go_wp2
                        go_roundw
                        case rel => exact ⟨t + 1, by omega, by go_num, HDa.out⟩
                        case measure => simp [intOf]; omega
              · clear hDt
                go_wp2
                go_roundw
                case rel => exact ⟨s + 1, by omega, by go_num, HDt.out⟩
                case measure => simp [intOf]; omega
          · go_wp2_with (go_at_call 12; refine (HAw.out _).mono ?_; rintro e w5 ⟨rfl, hb5⟩)
            go_ret
            exact ⟨rfl, bel_step (bel_step HB2.out (HDs.out.below _)) hb5⟩
end Go.Proofs.Ytalklhjmnoodeaa
