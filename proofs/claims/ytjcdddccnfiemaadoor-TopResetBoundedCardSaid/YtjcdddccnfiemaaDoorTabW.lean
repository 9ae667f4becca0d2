/-
  resync.table: the table of pairs of a machine.
  The parser's rows lie in memory; each state can read each letter.
-/
import Derived.Test.YtjcdddccnfiemaaDoorTabA
import Derived.Deep.RegionHeld3
import Derived.Deep.LoopGhost
namespace Go.Proofs.YtjcdddccnfiemaaDoor
open Go.RowKit Go.Deep
set_option linter.unusedVariables false

set_option maxRecDepth 100000 in
set_option maxHeartbeats 4000000 in
theorem table_any (vS vN vE : Value) (n q : Nat) (st : List ByteArray) (nx : Nat → Nat → Nat) (em : Nat → Nat → Int) (w : World)
    (hP : PVal w vS vN vE n q st (fun i j => (nx i j : Int)) em) (hc : ∀ s a, nx s a < n) (hn : n ≤ 64) (hn0 : 0 < n) (hq1 : 1 ≤ q) (hq : q ≤ 16) :
    Calls Tryd.prog 17 #[.agg #[.int .i64 (q : Int), vS, vN, vE]] w fun e w' => ∃ u T, e = .returned u ∧ IsTab n q nx T ∧ Mt w' u n n T ∧ Below w.heap.size w w' := by
  obtain ⟨aS, cS, rfl, _⟩ := id hP.s
  obtain ⟨aN, cN, rfl, hcN, hcN2⟩ := hP.nx.slice
  obtain ⟨aE, cE, rfl, hcE, hcE2⟩ := hP.em.slice
  have HP := hid hP
  have hmkO := run_make_row' (P := Tryd.prog) 25 37 (.slice none 0 0) 24 Tryd.underlying25 Tryd.infoRows rfl .i64 .i64 n (by omega) (by omega)
  have hmkR := run_make_row' (P := Tryd.prog) 37 3 (.int .i64 0) 8 Tryd.underlying37 Tryd.infoInt rfl .i64 .i64 n (by omega) (by omega)
  clear hP
  go_enter Tryd.func17, Tryd.ntmps17
  go_upto_region 1 with fail
  obtain ⟨w0, hw0⟩ : ∃ w0, w.alloc (.cells #[.int .i64 q, .slice aS n cS, .slice aN n cN, .slice aE n cE] 27) = w0 := ⟨_, rfl⟩
  obtain ⟨hb0, p0, p1, p2, p3⟩ := boxP hw0
  rw [hw0]
  have HB0 := hid hb0
  have HC0 := hid (And.intro p0 p2)
  have HN0 := hid (HP.out.below hb0).nx
  clear hw0 hb0 p0 p2 p3 HP
  go_upto_region 3 with fail
  have hTB := TB.start w0 n id tab0
  obtain ⟨w1, hw1⟩ : ∃ w1, ((w0.alloc (.cells (madeCells #[.slice none 0 0] n) 37)).alloc (.cells #[.slice (some ⟨w0.heap.size, 0, none⟩) n n] 25)) = w1 := ⟨_, rfl⟩
  rw [hw1] at hTB ⊢
  clear hw1 p1
  have HTB := hid hTB
  have dC := hTB.cC
  clear hTB
  go_upto_region 4 with fail
  clear dC
  go_loopw [18] (fun i wr => ∃ k : Nat, k ≤ n ∧ i = .int .i64 k ∧ ∃ g, TB w0 n g tab0 k wr) (fun i _ => n - (intOf i).toNat)
  case atStart => exact ⟨0, Nat.zero_le _, rfl, _, HTB.out⟩
  case round =>
    obtain ⟨k, hk, rfl, g, hT⟩ := hrel
    have HT := hid hT
    have dC := hT.cC
    have dF := hT.c.frozen 0
    clear HTB
    by_cases hlt : k < n
    · have qO := hT.o.cell (i := k) hlt
      have qF := hT.o.frozen k
      have dC2 : (wr.alloc (.cells (madeCells #[.int .i64 0] n) 3)).cell? ⟨w0.heap.size + 1, 0, none⟩ = some (.slice (some ⟨w0.heap.size, 0, none⟩) n n) := keeps (bel_alloc _ _) dC
      have dC3 : (wr.alloc (.cells (madeCells #[.int .i64 0] n) 3)).drew.cell? ⟨w0.heap.size + 1, 0, none⟩ = some (.slice (some ⟨w0.heap.size, 0, none⟩) n n) := keeps (bel_alloc _ _) dC
      have qO2 : (wr.alloc (.cells (madeCells #[.int .i64 0] n) 3)).cell? ⟨w0.heap.size, k, none⟩ = some (slF n g k k) := keeps (bel_alloc _ _) qO
      have qF2 : (wr.alloc (.cells (madeCells #[.int .i64 0] n) 3)).frozen? ⟨w0.heap.size, k, none⟩ = false := keeps_frozen (bel_alloc _ _) qO qF
      have HR := hid (hT.row hlt)
      clear hT
      go_upto_region 6 with fail
      go_region
      have HR2 := hid HR.out.drew
      clear HR dC2 dC3 qO2 qF2 qO qF dC dF
      generalize ((wr.alloc (.cells (madeCells #[.int .i64 0] n) 3)).setCell ⟨w0.heap.size, k, none⟩ (.slice (some ⟨wr.heap.size, 0, none⟩) n n)).drew = W2 at *
      generalize wr.heap.size = b at *
      have dC := HR2.out.cC
      have dO := HR2.out.cO hlt
      go_upto_region 8 with fail
      clear dC dO
      go_loopw [31] (fun i wi => ∃ t : Nat, t ≤ n ∧ i = .int .i64 t ∧ TBp w0 n g tab0 k b t wi) (fun i _ => n - (intOf i).toNat)
      case atStart => exact ⟨0, Nat.zero_le _, rfl, HR2.out⟩
      case round =>
        obtain ⟨t, ht, rfl, hR⟩ := hrel
        have HRt := hid hR
        have dC := hR.cC
        have dO := hR.cO hlt
        clear HR2
        by_cases hlt2 : t < n
        · have r1 := hR.rb.cell hlt2
          have r2 := hR.rb.frozen t
          clear hR
          by_cases hst : k = t
          · have hb : ((k : Int) != (t : Int)) = false := by simp [hst]
            have HN := hid (HRt.out.skip (by simp [tab0, hst]))
            clear hst
            go_wp2
            go_roundw
            case rel => exact ⟨t + 1, by omega, by go_num, HN.out⟩
            case measure => simp [intOf]; omega
          · have hb : ((k : Int) != (t : Int)) = true := by simp; omega
            have HN := hid (HRt.out.set)
            rw [show tab0 k t = -1 by simp [tab0, hst]] at HN
            clear hst
            go_wp2
            go_roundw
            case rel => exact ⟨t + 1, by omega, by go_num, HN.out⟩
            case measure => simp [intOf]; omega
        · have e : t = n := by omega
          subst e
          have HN := hid hR.done
          clear hR dC dO
          go_wp2
          go_roundw
          case rel => exact ⟨k + 1, by omega, by go_num, _, HN.out⟩
          case measure => simp [intOf]; omega
    · have e : k = n := by omega
      have HTn := hid (show TB w0 n g tab0 n wr from e ▸ hT)
      clear e hk HT hT dC dF hmkO hmkR
      have HPre := hid (pre_tab0 n q nx)
      obtain ⟨g0, hg0⟩ : ∃ g0, g = g0 := ⟨_, rfl⟩
      rw [hg0] at HTn
      clear hg0
      go_wp2_with fail
      go_loopg [8] (openN n tab0 + 1) (fun gk u wr => ∃ c T, u = .bool c ∧ gk = openN n T + (if c = true then 1 else 0) ∧ TB w0 n g0 T n wr ∧ PreTab n q nx T ∧ (c = false → IsTab n q nx T))
      case atStart => exact ⟨true, tab0, rfl, rfl, HTn.out, HPre.out, fun h => by cases h⟩
      case round =>
        obtain ⟨c, T, rfl, hgk, hT, hPT, hFin⟩ := hrel
        have HT := hid hT
        have HPT := hid hPT
        have dC := hT.cC
        clear HTn HPre
        cases c
        · have HI := hid (hFin rfl)
          have HM := hid (hT.mt (by omega))
          have HB := hid (bel_step HB0.out hT.bel)
          clear hT hFin hgk
          go_wp2
          go_ret
          exact ⟨_, T, rfl, HI.out, HM.out, HB.out⟩
        · have HG := hid hgk
          clear hT hPT hFin hgk dC
          go_wp2_with fail
          go_loopw [8, 48] (fun u i wr => ∃ s : Nat, s ≤ n ∧ i = .int .i64 s ∧ ∃ c T', u = .bool c ∧ TB w0 n g0 T' n wr ∧ PreTab n q nx T' ∧ Swept n q nx T T' c s 0) (fun _ i _ => n - (intOf i).toNat)
          case atStart => exact ⟨0, Nat.zero_le _, rfl, false, T, rfl, HT.out, HPT.out, Swept.start⟩
          case round =>
            obtain ⟨s, hs, rfl, c, T1, rfl, hT1, hP1, hS1⟩ := hrel
            have H1 := hid (And.intro hT1 (And.intro hP1 hS1))
            clear hT1 hP1 HT
            by_cases hlt : s < n
            · clear hS1
              go_wp2_with fail
              go_loopw [8, 52] (fun u i wr => ∃ t : Nat, t ≤ n ∧ i = .int .i64 t ∧ ∃ c T', u = .bool c ∧ TB w0 n g0 T' n wr ∧ PreTab n q nx T' ∧ Swept n q nx T T' c s t) (fun _ i _ => n - (intOf i).toNat)
              case atStart => exact ⟨0, Nat.zero_le _, rfl, c, T1, rfl, H1.out.1, H1.out.2.1, H1.out.2.2⟩
              case round =>
                obtain ⟨t, ht, rfl, c2, T2, rfl, hT2, hP2, hS2⟩ := hrel
                have H2 := hid (And.intro hT2 (And.intro hP2 hS2))
                have dC := hT2.cC
                have dO := hT2.cO hlt (Nat.le_refl _)
                clear H1
                by_cases hlt2 : t < n
                · have r1 := (hT2.cR hlt hlt2).1
                  have r2 := (hT2.cR hlt hlt2).2
                  clear hT2 hP2 hS2
                  by_cases hv : T2 s t = -1
                  · have hbW := H2.out.1.bel
                    have HKn := hid (show ∀ X, Dr wr X → Calls Tryd.prog 37 #[.int .i64 (s : Int), .int .i64 (t : Int), .pointer (some ⟨w.heap.size, 0, none⟩), .pointer (some ⟨w0.heap.size + 1, 0, none⟩)] X fun e w' => e = .returned (.int .i64 (numOf (mostK nx T2 s t q))) ∧ Dr X w' from fun X hD =>
                      known_any w.heap.size (w0.heap.size + 1) n q aN (some ⟨w0.heap.size, 0, none⟩) cN n nx T2 s t X (keeps (hD.below _) (keeps hbW HC0.out.1)) (keeps (hD.below _) (keeps hbW HC0.out.2)) (keeps (hD.below _) H2.out.1.cC) ((HN0.out.below hbW).dr hD) ((H2.out.1.mt (by omega)).dr hD) hc hlt hlt2 (by omega) hq1 hq
                        (fun i hi j hj => ⟨H2.out.2.1.low hi hj, by
                          have h1 := tab_bound (fun a _ b _ => hc a b) H2.out.2.1 hi hj
                          have h2 : n * n ≤ 64 * 64 := Nat.mul_le_mul hn hn
                          omega⟩))
                    have hb : (T2 s t == -1) = true := by simp [hv]
                    have HV := hid hv
                    clear hbW
                    rw [hv] at r1
                    cases hm : mostK nx T2 s t q with
                    | none =>
                      rw [hm] at HKn
                      have hnum : numOf none = -1 := rfl
                      rw [hnum] at HKn
                      have HS := hid (H2.out.2.2.stuck hm)
                      clear hm hnum hv
                      go_upto_region 25 with fail
                      go_region_with (go_at_call 37; refine (HKn.out _ ⟨_, rfl⟩).mono ?_; rintro e w5 ⟨rfl, hD5⟩; have q1 := keeps (hD5.below _) dC; have q2 := keeps (hD5.below _) dO; have q3 := keeps_frozen (hD5.below _) r1 r2; have q4 := keeps (hD5.below _) r1)
                      all_goals
                        have hT5 := (H2.out.1.keep (bel_step (Below.refl _ _) (hD5.below _))).store (s := s) (t := t) hlt (-1)
                        rw [upT_self _ _ _ _ HV.out] at hT5
                        have HT5 := hid hT5
                        clear q1 q2 q3 q4 hD5 dC dO r1 r2 hT5
                        generalize w5.setCell ⟨g0 s, t, none⟩ (.int .i64 (-1)) = W5 at *
                        have dC := HT5.out.cC
                        have dO := HT5.out.cO hlt (Nat.le_refl _)
                        have r1 := (HT5.out.cR hlt hlt2).1
                        rw [HV.out] at r1
                        cases c2
                        · go_wp2
                          go_roundw
                          case rel => exact ⟨t + 1, by omega, by go_num, false, T2, rfl, HT5.out, H2.out.2.1, HS.out⟩
                          case measure => simp [intOf]; omega
                        · go_wp2
                          go_roundw
                          case rel => exact ⟨t + 1, by omega, by go_num, true, T2, rfl, HT5.out, H2.out.2.1, HS.out⟩
                          case measure => simp [intOf]; omega
                    | some m =>
                      rw [hm] at HKn
                      have hnum : numOf (some m) = m + 1 := rfl
                      rw [hnum] at HKn
                      have hm0 := (mostK_some hm).1
                      have HS := hid (H2.out.2.2.more hlt hlt2 hv hm0 (t + 1))
                      have HPu := hid (pre_up (t := t) H2.out.2.1 hlt hv hm)
                      have hb3 : (m + 1 != -1) = true := by simp; omega
                      clear hm hnum hv
                      go_upto_region 25 with fail
                      go_region_with (go_at_call 37; refine (HKn.out _ ⟨_, rfl⟩).mono ?_; rintro e w5 ⟨rfl, hD5⟩; have q1 := keeps (hD5.below _) dC; have q2 := keeps (hD5.below _) dO; have q3 := keeps_frozen (hD5.below _) r1 r2; have q4 := keeps (hD5.below _) r1)
                      all_goals
                        have hT5 := (H2.out.1.keep (bel_step (Below.refl _ _) (hD5.below _))).store (s := s) (t := t) hlt (m + 1)
                        have HT5 := hid hT5
                        clear q1 q2 q3 q4 hD5 dC dO r1 r2 hT5
                        generalize w5.setCell ⟨g0 s, t, none⟩ (.int .i64 (m + 1)) = W5 at *
                        have dC := HT5.out.cC
                        have dO := HT5.out.cO hlt (Nat.le_refl _)
                        have r1 := (HT5.out.cR hlt hlt2).1
                        rw [upT_same] at r1
                        cases c2
                        · go_wp2
                          go_roundw
                          case rel => exact ⟨t + 1, by omega, by go_num, true, _, rfl, HT5.out, HPu.out, HS.out⟩
                          case measure => simp [intOf]; omega
                        · go_wp2
                          go_roundw
                          case rel => exact ⟨t + 1, by omega, by go_num, true, _, rfl, HT5.out, HPu.out, HS.out⟩
                          case measure => simp [intOf]; omega
                  · have hb : (T2 s t == -1) = false := by simp [hv]
                    have HN := hid (H2.out.2.2.full hv)
                    clear hv
                    go_wp2
                    go_roundw
                    case rel => exact ⟨t + 1, by omega, by go_num, c2, T2, rfl, H2.out.1, H2.out.2.1, HN.out⟩
                    case measure => simp [intOf]; omega
                · have e : t = n := by omega
                  have HN := hid (show Swept n q nx T T2 c2 (s + 1) 0 from Swept.line (e ▸ hS2))
                  clear hT2 hP2 hS2 dC dO
                  go_wp2
                  go_roundw
                  case rel => exact ⟨s + 1, by omega, by go_num, c2, T2, rfl, H2.out.1, H2.out.2.1, HN.out⟩
                  case measure => simp [intOf]; omega
            · have e : s = n := by omega
              have HS := hid (show Swept n q nx T T1 c n 0 from e ▸ hS1)
              clear hS1
              go_wp2
              go_roundg (openN n T1 + (if c = true then 1 else 0))
              case rel =>
                refine ⟨c, T1, rfl, rfl, H1.out.1, H1.out.2.1, fun hc => ?_⟩
                subst hc
                obtain ⟨h1, h2⟩ := HS.out.done HPT.out
                rw [h1]; exact h2
              case measure =>
                rw [HG.out]
                cases c with
                | false => rw [(HS.out.1 rfl).1]; simp
                | true => have := HS.out.2 rfl; simp; omega
end Go.Proofs.YtjcdddccnfiemaaDoor
