/-
  grooveref45.Greatest: what resync.Greatest says, too.
  No condition beyond the words lying in a slice.
-/
import Derived.Test.YtalklhjmnoodeaaRefTable
import Derived.Test.YtalklhjmnoodeaaGreatest
namespace Go.Proofs.Ytalklhjmnoodeaa
open Go.RowKit Go.Deep
set_option linter.unusedVariables false

set_option maxRecDepth 100000 in
set_option maxHeartbeats 4000000 in
theorem refgreatest_any (q : Int) (v : Value) (ws : List ByteArray) (w : World) (hl : Sl 1 w v ws.length (strs ws)) :
    Calls Try.prog 23 #[.agg #[.int .i64 q, v]] w (GPost q ws w) := by
  have HL := hid hl
  have HOf := hid (fun (X : World) h => rof_any q v ws X h)
  obtain ⟨ao, cap, rfl, _, hl1, hl2, hl3⟩ := hl
  clear hl3
  go_enter Try.func23, Try.ntmps23
  go_upto_region 1 with fail
  obtain ⟨w0, hw0⟩ : ∃ w0, w.alloc (.cells #[.int .i64 q, .slice ao ws.length cap] 24) = w0 := ⟨_, rfl⟩
  obtain ⟨hb0, c0, c1⟩ := boxed hw0
  rw [hw0]
  have HB0 := hid hb0
  clear hw0 hb0
  go_upto_region 2 with (go_at_call 42; refine (HOf.out _ (HL.out.below HB0.out)).mono ?_; rintro e w1 ⟨⟨aN, nN, cN, aE, nE, cE, rfl, hM⟩, hb1⟩; have HB1 := hid (bel_step HB0.out hb1); have c0 := keeps hb1 c0)
  obtain ⟨wp, hwp⟩ : ∃ wp, w1.alloc (.cells #[.slice aN nN cN, .slice aE nE cE] 69) = wp := ⟨_, rfl⟩
  obtain ⟨hbp, p0, p1⟩ := boxM hwp
  rw [hwp]
  have HBp := hid (bel_step HB1.out hbp)
  have HMp := hid (fun h => (⟨(hM h).1.below hbp, (hM h).2.below hbp⟩ : Mt wp _ _ _ _ ∧ Mt wp _ _ _ _))
  have c0 := keeps hbp c0
  clear hwp hbp hb1 hM HOf HL c1
  generalize w1.heap.size = g at *
  by_cases hE : rErr q ws [] = 0
  · obtain ⟨hA, h64, hwx⟩ := rErr_zero hE
    have hm := mach_of hA
    obtain ⟨hMN, hME⟩ := HMp.out hE
    have hMN := hMN.congr hm.eq
    obtain ⟨Q, rfl⟩ : ∃ Q : Nat, q = Q := ⟨q.toNat, by have := hm.q2; omega⟩
    have hq16 := hm.q16
    rw [Int.toNat_natCast] at hMN hME
    obtain ⟨_, _, e1, _⟩ := hMN.slice
    obtain ⟨_, _, e2, _⟩ := hME.slice
    simp only [Value.slice.injEq] at e1 e2
    obtain ⟨-, rfl, -⟩ := e1
    obtain ⟨-, rfl, -⟩ := e2
    have HTb := hid (rtab_any _ _ _ _ _ _ wp hMN hME hm.lt h64 (by omega))
    have HE := hid hE
    have HM := hid hm
    have HMN := hid hMN
    clear hMN hME hA hwx HMp
    rw [hE]
    clear hE
    go_upto_region 5 with (go_at_call 51; refine HTb.out.mono ?_; rintro e w2 ⟨u, T, rfl, hT, hMt, hb2⟩; have HB2 := hid (bel_step HBp.out hb2); have HNx := hid (HMN.out.below hb2); have p0 := keeps hb2 p0; have c0 := keeps hb2 c0; obtain ⟨aT, cT, rfl, hcT, hcT2⟩ := hMt.slice)
    have HMt := hid hMt
    have HT := hid hT
    have hcl : Closed (sizeW ws) Q (nxN ws) := fun a _ b _ => HM.out.lt a b
    have HBd := hid (fun s hs t ht => tab_bound hcl hT.toPreTab (s := s) (t := t) hs ht)
    have HLo := hid (fun s hs t ht => hT.low (s := s) (t := t) hs ht)
    have HLt := hid HM.out.lt
    have HGr := hid (show greatN (sizeW ws) ((Q : Int)).toNat (nxN ws) T = g1 (fun s a b => T (nxN ws s a) (nxN ws s b)) Q (sizeW ws) from rfl)
    have HC2 := hid (And.intro c0 p0)
    clear hMt hT hb2 hcl hm p1 HTb HMN
    generalize hn : sizeW ws = n at *
    go_wp2_with fail
    clear c0 p0
    go_loopw [8, 9] (fun u i wr => ∃ k : Nat, k ≤ n ∧ i = .int .i64 k ∧ Dr w2 wr ∧ ∃ m : Int, u = .int .i64 m ∧ Hid (g1 (fun s a b => T (nxN ws s a) (nxN ws s b)) Q k = some m)) (fun _ i _ => n - (intOf i).toNat)
    case atStart => exact ⟨0, Nat.zero_le _, rfl, Dr.refl _, 0, rfl, hid rfl⟩
    case round =>
      obtain ⟨k, hk, rfl, hD, m, rfl, HG⟩ := hrel
      have HD := hid hD
      have c0 := keeps (hD.below _) HC2.out.1
      have p0 := keeps (hD.below _) HC2.out.2
      by_cases hlt : k < n
      · obtain ⟨b, o, r, c, e1, n1, hrow⟩ := HNx.out.row hlt
        subst e1
        have HN1 := hid n1
        have HRow := hid hrow
        clear hD hrow n1
        go_wp2_with fail
        clear c0 p0
        go_loopw [8, 10] (fun u i wr => ∃ a : Nat, a ≤ Q ∧ i = .int .i64 a ∧ Dr w2 wr ∧ ∃ m : Int, u = .int .i64 m ∧ Hid (gAt (fun s a b => T (nxN ws s a) (nxN ws s b)) Q k a 0 = some m)) (fun _ i _ => Q - (intOf i).toNat)
        case atStart => exact ⟨0, Nat.zero_le _, rfl, HD.out, m, rfl, hid HG.out⟩
        case round =>
          obtain ⟨a, ha, rfl, hDa, m1, rfl, HGa⟩ := hrel
          have HDa := hid hDa
          have c0 := keeps (hDa.below _) HC2.out.1
          clear HD
          by_cases hla : a < Q
          · clear hDa
            go_wp2_with fail
            clear c0
            go_loopw [8, 11] (fun u i wr => ∃ b : Nat, b ≤ Q ∧ i = .int .i64 b ∧ Dr w2 wr ∧ ∃ m : Int, u = .int .i64 m ∧ Hid (gAt (fun s a b => T (nxN ws s a) (nxN ws s b)) Q k a b = some m)) (fun _ i _ => Q - (intOf i).toNat)
            case atStart => exact ⟨0, Nat.zero_le _, rfl, HDa.out, m1, rfl, hid HGa.out⟩
            case round =>
              obtain ⟨b2, hb2, rfl, hDb, m2, rfl, HGb⟩ := hrel
              have HDb := hid hDb
              have c0 := keeps (hDb.below _) HC2.out.1
              clear HDa
              by_cases hlb : b2 < Q
              · have p0 := keeps (hDb.below _) HC2.out.2
                have n1 := keeps (hDb.below _) HN1.out
                obtain ⟨b1, o1, ea, n2⟩ := (HRow.out.dr hDb).cell (rowV_get (fun j => ((nxN ws k j : Nat) : Int)) hla)
                subst ea
                obtain ⟨b3, o3, ea, n3⟩ := (HRow.out.dr hDb).cell (rowV_get (fun j => ((nxN ws k j : Nat) : Int)) hlb)
                simp only [Option.some.injEq, Addr.mk.injEq, and_true] at ea
                obtain ⟨rfl, rfl⟩ := ea
                have hc1 := HLt.out k a
                have hc2 := HLt.out k b2
                obtain ⟨b5, o5, b6, o6, k6, e5, n5, n6⟩ := (HMt.out.dr hDb).cell hc1 hc2
                subst e5
                have hTl := HLo.out _ hc1 _ hc2
                have HNext := hid (fun h0 : ¬ T (nxN ws k a) (nxN ws k b2) < 0 => gAt_next (f := fun s a b => T (nxN ws s a) (nxN ws s b)) HGb.out rfl h0)
                have HFail := hid (fun h0 : T (nxN ws k a) (nxN ws k b2) < 0 => gAt_fail (f := fun s a b => T (nxN ws s a) (nxN ws s b)) HGb.out rfl h0 hlt hla hlb)
                generalize nxN ws k a = x1 at *
                generalize nxN ws k b2 = x2 at *
                generalize T x1 x2 = K at *
                clear hDb
                by_cases hK : K < 0
                · have HR := hid (HGr.out.trans (HFail.out (by omega)))
                  clear HNext HFail
                  go_wp2_with fail
                  go_quiet (fail)
                  clear n1 n2 n3 n5 n6 c0 p0
                  go_wp2
                  go_ret3
                  subst hn
                  exact gpost_ok none HE.out HT.out HR.out (bel_step HB2.out ((HDb.out.drewN _).below _))
                · have HS := hid (HNext.out (by omega))
                  clear HNext HFail
                  go_wp2_with fail
                  go_quiet (fail)
                  clear n1 n2 n3 n5 n6 c0 p0
                  go_wp2
                  go_roundw
                  case rel => exact ⟨b2 + 1, by omega, by go_num, HDb.out.drewN _, _, rfl, HS⟩
                  case measure => simp [intOf]; omega
              · clear hDb
                go_wp2
                go_roundw
                case rel => exact ⟨a + 1, by omega, by go_num, HDb.out, m2, rfl, hid (show gAt (fun s a b => T (nxN ws s a) (nxN ws s b)) Q k a Q = some m2 from (show b2 = Q by omega) ▸ HGb.out)⟩
                case measure => simp [intOf]; omega
          · clear hDa
            go_wp2
            go_roundw
            case rel => exact ⟨k + 1, by omega, by go_num, HDa.out, m1, rfl, hid (show gAt (fun s a b => T (nxN ws s a) (nxN ws s b)) Q k Q 0 = some m1 from (show a = Q by omega) ▸ HGa.out)⟩
            case measure => simp [intOf]; omega
      · have e : k = n := by omega
        have HR := hid (HGr.out.trans (e ▸ HG.out))
        clear hD e
        go_wp2
        go_ret3
        subst hn
        exact gpost_ok (some m) HE.out HT.out HR.out (bel_step HB2.out (HD.out.below _))
  · have hE2 : (rErr q ws [] != 0) = true := by simp [hE]
    go_wp2
    go_ret3
    exact .inl ⟨hE, rfl, HBp.out⟩
end Go.Proofs.Ytalklhjmnoodeaa
