/-
  groovelaw45.ResyncSlips: the delay of a slip is the first number of letters behind which both parsers are in the same state.
  No condition beyond the words lying in a slice.
-/
import Derived.Test.YtalklhjmnoodeaaAwake45
import Derived.Test.YtalklhjmnoodeaaLawMach
import Derived.Test.YtalklhjmnoodeaaApart
import Derived.Test.YtalklhjmnoodeaaBoundErr
import Derived.Test.YtalklhjmnoodeaaSlip
namespace Go.Proofs.Ytalklhjmnoodeaa
open Go.RowKit Go.Deep
set_option linter.unusedVariables false

theorem slip_le {ws : List ByteArray} {x : ByteArray} {A m : Nat} (h : slipR ws x A = some m) : m ≤ x.size := by
  have := (firstN_some.1 h).1
  rw [List.length_drop, ba_len] at this
  omega
/-- A word without the letter at a place. -/
def leftOut (x : ByteArray) (i : Nat) : ByteArray := x.extract 0 i ++ x.extract (i + 1) x.size
theorem leftOut_list (x : ByteArray) (i : Nat) : (leftOut x i).data.toList = x.data.toList.take i ++ x.data.toList.drop (i + 1) := by
  unfold leftOut
  rw [app_list, pre_list, suf_list]
theorem leftOut_size (x : ByteArray) {i : Nat} (hi : i < x.size) : (leftOut x i).size + 1 = x.size := by
  have h := ba_len (leftOut x i)
  rw [leftOut_list, List.length_append, List.length_take, List.length_drop, ba_len] at h
  omega
theorem ok_left {q : Int} {x : ByteArray} (i : Nat) (hx : okWord q x = true) : okWord q (leftOut x i) = true := by
  refine okWord_sub hx fun c hc => ?_
  rw [leftOut_list] at hc
  rcases List.mem_append.1 hc with h | h
  · exact List.mem_of_mem_take h
  · exact List.mem_of_mem_drop h
theorem slip_law {ws : List ByteArray} {x : ByteArray} {A k : Nat} (hA : A < x.size) (hk2 : A + 1 + k ≤ x.size) :
    (runN (nxN ws) 0 (x.extract 0 (A + 1 + k)).data.toList == runN (nxN ws) 0 ((leftOut x A).extract 0 (A + k)).data.toList) = true ∧ (∃ n, slipR ws x A = some n ∧ n ≤ k) ∨
    (runN (nxN ws) 0 (x.extract 0 (A + 1 + k)).data.toList == runN (nxN ws) 0 ((leftOut x A).extract 0 (A + k)).data.toList) = false ∧ ∀ n, slipR ws x A = some n → k < n := by
  have hl1 : (x.data.toList.take (A + 1)).length = A + 1 := by rw [List.length_take, ba_len]; omega
  have hl2 : (x.data.toList.take A).length = A := by rw [List.length_take, ba_len]; omega
  have h := run_behind (nxN ws) (r := x.data.toList.drop (A + 1)) hl1 hl2 (k1 := A + 1 + k) (k2 := A + k) (j := k) rfl rfl
  rw [← leftOut_list x A, List.take_append_drop, ← pre_list, ← pre_list] at h
  rw [h]
  have hj : k ≤ (x.data.toList.drop (A + 1)).length := by rw [List.length_drop, ba_len]; omega
  rcases agree_cases (nx := nxN ws) (s := runN (nxN ws) 0 (x.data.toList.take (A + 1))) (t := runN (nxN ws) 0 (x.data.toList.take A)) hj with ⟨h1, n, h2, h3⟩ | ⟨h1, h2⟩
  · left; exact ⟨h1, n, h2, h3⟩
  · right; exact ⟨h1, h2⟩

set_option maxRecDepth 100000 in
set_option maxHeartbeats 4000000 in
theorem resyncSlips_any (q : Int) (v : Value) (ws : List ByteArray) (x : ByteArray) (A : Int) (w : World) (hl : Sl 1 w v ws.length (strs ws)) (_hx : x.size ≤ maxLen) (hA0 : IntKind.u8.min ≤ A) (hA1 : A ≤ IntKind.u8.max) :
    Calls Try.prog 8 #[.agg #[.int .i64 q, v], .string x, .int .u8 A] w fun e w' => e = .returned (.bool true) ∧ Below w.heap.size w w' := by
  have hA0 : 0 ≤ A := hA0
  have hA1 : A ≤ 255 := hA1
  have HL := hid hl
  have HMa := hid (fun X h => mach_any q v ws X h)
  have HDe := hid (fun (A : Int) X h => slip_any q v ws x A X h)
  have HCk := hid (fun X => wcheck_any q x X)
  have HAw := hid awake_any
  obtain ⟨ao, cap, rfl, _, hl1, hl2, hl3⟩ := hl
  clear hl3
  go_enter Try.func8, Try.ntmps8
  go_upto_region 1 with fail
  obtain ⟨w0, hw0⟩ : ∃ w0, w.alloc (.cells #[.int .i64 q, .slice ao ws.length cap] 24) = w0 := ⟨_, rfl⟩
  obtain ⟨hb0, c0, c1⟩ := boxed hw0
  rw [hw0]
  have HB0 := hid hb0
  clear hw0 hb0
  cases hM : machB q ws
  · have HM := hid hM
    go_wp2_with (first
      | (go_at_call 19; refine (HMa.out _ (HL.out.below HB0.out)).mono ?_; rintro e w1 (⟨_, ⟨a, aS, aN, aE, nS, cS, nN, cN, nE, cE, rfl⟩, hb1⟩ | ⟨h0, _⟩); rotate_left; (exact absurd (HM.out.symm.trans h0) (by decide)); have HB1 := hid (bel_step HB0.out hb1))
      | (go_at_call 12; refine (HAw.out _).mono ?_; rintro e w2 ⟨rfl, hb2⟩))
    go_ret
    exact ⟨rfl, bel_step (bel_step HB1.out (bel_alloc _ _)) hb2⟩
  · obtain ⟨hA, h16⟩ := machB_true hM
    have hm := mach_of hA
    have HM := hid hM
    obtain ⟨Q, rfl⟩ : ∃ Q : Nat, q = Q := ⟨q.toNat, by have := hm.q2; omega⟩
    have HMm := hid hm
    have HAe := hid hA
    have hq16 := hm.q16
    have hq2 := hm.q2
    clear hM hm hA
    go_upto_region 2 with (go_at_call 19; refine (HMa.out _ (HL.out.below HB0.out)).mono ?_; rintro e w1 (⟨h0, _⟩ | ⟨_, vS, vN, vE, rfl, hres, hb1⟩); (exact absurd (HM.out.symm.trans h0) (by decide)); have HB1 := hid (bel_step HB0.out hb1); have c0 := keeps hb1 c0; have c1 := keeps hb1 c1; obtain ⟨aS, cS, aN, cN, aE, cE, rfl, rfl, rfl⟩ := hres.slices)
    obtain ⟨wp, hwp⟩ : ∃ wp, w1.alloc (.cells #[.int .i64 (Q : Int), .slice aS (sizeW ws) cS, .slice aN (sizeW ws) cN, .slice aE (sizeW ws) cE] 36) = wp := ⟨_, rfl⟩
    obtain ⟨hbp, p0, p1, p2, p3⟩ := boxP hwp
    rw [hwp]
    have HBp := hid (bel_step HB1.out hbp)
    have c0 := keeps hbp c0
    have c1 := keeps hbp c1
    have HPv := hid (show PVal wp (.slice aS (sizeW ws) cS) (.slice aN (sizeW ws) cN) (.slice aE (sizeW ws) cE) (sizeW ws) Q (stW ws) (nxI ws) (emI ws) by have h := (hres.keep hbp).pval (by omega); rw [Int.toNat_natCast] at h; exact h)
    clear hwp hbp hb1 hres
    generalize w1.heap.size = g at *
    have HS := hid (empty_eq x)
    by_cases h1 : x.size = 0
    · have he : x.toList.isEmpty = true := by rw [HS.out]; simpa using h1
      clear HS
      go_wp2_with (go_at_call 12; refine (HAw.out _).mono ?_; rintro e w2 ⟨rfl, hb2⟩)
      go_ret
      exact ⟨rfl, bel_step HBp.out hb2⟩
    · have he : x.toList.isEmpty = false := by rw [HS.out]; simpa using h1
      by_cases h2 : 40 < x.size
      · have hg : decide ((40 : Int) < (x.size : Int)) = true := by simp; omega
        clear HS
        go_wp2_with (go_at_call 12; refine (HAw.out _).mono ?_; rintro e w2 ⟨rfl, hb2⟩)
        go_ret
        exact ⟨rfl, bel_step HBp.out hb2⟩
      · have hg : decide ((40 : Int) < (x.size : Int)) = false := by simp; omega
        by_cases h3 : wordErr Q x = 0
        · have hn : (wordErr Q x != 0) = false := by simp [h3]
          have HX := hid (And.intro h1 (And.intro h2 h3))
          have HOk := hid (wordErr_zero.1 h3).2.2.2
          obtain ⟨a, rfl⟩ : ∃ a : Nat, A = a := ⟨A.toNat, by omega⟩
          clear HS
          obtain ⟨I, hI⟩ : ∃ I : Nat, (a : Int) % (x.size : Int) = (I : Int) := ⟨a % x.size, by rw [Int.natCast_emod]⟩
          have hIx : I < x.size := by have := Int.emod_lt_of_pos (a : Int) (show (0 : Int) < x.size by omega); omega
          have HD0 := hid (show slErr Q ws x I = 0 by
            rw [slErr, if_neg, if_neg (by omega)]
            rw [bnd_err HAe.out (by omega) h3]; simp)
          generalize wordErr Q x = E at *
          subst h3
          go_upto_region 4 with (go_at_call 21; refine (HCk.out _).mono ?_; rintro e w' ⟨rfl, hD⟩; have c0 := keeps (hD.below _) c0; have c1 := keeps (hD.below _) c1; have p0 := keeps (hD.below _) p0; have p1 := keeps (hD.below _) p1; have p2 := keeps (hD.below _) p2; have p3 := keeps (hD.below _) p3; have HB2 := hid (bel_step HBp.out (hD.below _)); have HPv := hid (HPv.out.below (hD.below _)); clear hD)
          have hT2 : IntKind.i64.wrap (a : Int) = (a : Int) := by rw [IntKind.wrap_i64]; omega
          have hT3 : (a : Int).tmod (x.size : Int) = (I : Int) := by rw [Int.tmod_eq_emod_of_nonneg (by omega)]; exact hI
          have hT5 : ¬ x.size = 0 := h1
          go_upto_region 5 with fail
          have HLy := hid (leftOut_size x hIx)
          obtain ⟨y1, hy1⟩ : ∃ y, x.extract 0 I = y := ⟨_, rfl⟩
          obtain ⟨y2, hy2⟩ : ∃ y, x.extract (I + 1) x.size = y := ⟨_, rfl⟩
          have hz1 : y1.size = I := by rw [← hy1, ByteArray.size_extract]; omega
          have hz2 : y2.size = x.size - (I + 1) := by rw [← hy2, ByteArray.size_extract]; omega
          have hc1 := run_cat y1 y2 (leftOut x I) (by rw [leftOut, hy1, hy2]) (by omega)
          clear hz1 hz2
          have hi1 : IntKind.i64.wrap ((I : Int) + 1) = (I : Int) + 1 := by rw [IntKind.wrap_i64]; omega
          have hi2 : (0 : Int) ≤ (I : Int) + 1 := by omega
          have hi3 : (I : Int) + 1 ≤ (x.size : Int) := by omega
          have hi4 : (0 : Int) ≤ (I : Int) := by omega
          have hi5 : (I : Int) ≤ (x.size : Int) := by omega
          have hi6 : ((I : Int) + 1).toNat = I + 1 := by omega
          have HYs := hid (leftOut_size x hIx)
          have HAG := hid (fun k h => slip_law (ws := ws) (A := I) (k := k) hIx h)
          have HEr := hid (And.intro (fun k => err_pre (Q := Q) (by omega) (by omega) (ok_left I HOk.out) (by have := leftOut_size x hIx; omega) k) (fun k => err_pre (Q := Q) (by omega) (by omega) HOk.out (by omega) k))
          generalize leftOut x I = y at *
          go_quiet (fail)
          have HDn := hid (Dr.drewN (Dr.refl w') nq)
          have c0 : (w'.drewN nq).cell? ⟨w.heap.size, 0, none⟩ = some (.int .i64 (Q : Int)) := c0
          have c1 : (w'.drewN nq).cell? ⟨w.heap.size, 1, none⟩ = some (.slice ao ws.length cap) := c1
          have p0 : (w'.drewN nq).cell? ⟨g, 0, none⟩ = some (.int .i64 (Q : Int)) := p0
          have p1 : (w'.drewN nq).cell? ⟨g, 1, none⟩ = some (.slice aS (sizeW ws) cS) := p1
          have p2 : (w'.drewN nq).cell? ⟨g, 2, none⟩ = some (.slice aN (sizeW ws) cN) := p2
          have p3 : (w'.drewN nq).cell? ⟨g, 3, none⟩ = some (.slice aE (sizeW ws) cE) := p3
          have HBq := hid (bel_step HB2.out (HDn.out.below _))
          have HPv := hid (HPv.out.below (HDn.out.below _))
          clear hT2 hT3 hT5 hI hc1 hy1 hy2 hi1 hi2 hi3 hi6 HDn HB2
          generalize w'.drewN nq = wq at *
          go_upto_region 7 with (go_at_call 15; refine (HDe.out I _ (HL.out.below HBq.out)).mono ?_; rintro e w4 ⟨hb4, ⟨hne, _⟩ | ⟨_, rfl⟩⟩; (exact absurd HD0.out hne); have p0 := keeps hb4 p0; have p1 := keeps hb4 p1; have p2 := keeps hb4 p2; have p3 := keeps hb4 p3; have HB4 := hid (bel_step HBq.out hb4); have HPv := hid (HPv.out.below hb4); clear hb4)
          have HPc := hid (And.intro p0 (And.intro p1 (And.intro p2 p3)))
          clear p0 p1 p2 p3 c0 c1 HDe HD0
          have HLe := hid (fun m h => slip_le (ws := ws) (x := x) (A := I) (m := m) h)
          generalize slipR ws x I = o at *
          cases o with
          | none =>
            simp only [agI, agB, Option.isSome_none]
            go_wp2_with fail
            go_loopw [13] (fun i wr => ∃ k : Nat, I + 1 + k ≤ x.size + 1 ∧ i = .int .i64 k ∧ Below w4.heap.size w4 wr) (fun i _ => x.size + 1 - (intOf i).toNat)
            case atStart => exact ⟨0, by omega, rfl, Below.refl _ _⟩
            case round =>
              obtain ⟨k, hk2, rfl, hbr⟩ := hrel
              have HBr := hid hbr
              have p0 := keeps hbr HPc.out.1
              have p1 := keeps hbr HPc.out.2.1
              have p2 := keeps hbr HPc.out.2.2.1
              have p3 := keeps hbr HPc.out.2.2.2
              clear hbr
              have k4 : IntKind.i64.wrap ((I : Int) + 1) = (I : Int) + 1 := by rw [IntKind.wrap_i64]; omega
              have k5 : IntKind.i64.wrap ((I : Int) + 1 + (k : Int)) = (I : Int) + 1 + (k : Int) := by rw [IntKind.wrap_i64]; omega
              by_cases hlt : I + 1 + k ≤ x.size
              · have hag := HAG.out k hlt
                have HAp := hid (fun X h => apart_any Q ws (.slice aS (sizeW ws) cS) (.slice aN (sizeW ws) cN) (.slice aE (sizeW ws) cE) (x.extract 0 (I + 1 + k)) (y.extract 0 (I + k)) X h HAe.out (by omega) (HEr.out.2 _) (HEr.out.1 _))
                obtain ⟨z1, hz1⟩ : ∃ z, x.extract 0 (I + 1 + k) = z := ⟨_, rfl⟩
                obtain ⟨z2, hz2⟩ : ∃ z, y.extract 0 (I + k) = z := ⟨_, rfl⟩
                rw [hz1, hz2] at HAp hag
                have k1 : (0 : Int) ≤ (I : Int) + 1 + (k : Int) := by omega
                have k2 : (I : Int) + 1 + (k : Int) ≤ (x.size : Int) := by omega
                have k3 : ((I : Int) + 1 + (k : Int)).toNat = I + 1 + k := by omega
                have k6 : IntKind.i64.wrap ((I : Int) + (k : Int)) = (I : Int) + (k : Int) := by rw [IntKind.wrap_i64]; omega
                have k7 : ((I : Int) + (k : Int)) ≤ (y.size : Int) := by have := HYs.out; omega
                have k8 : ((I : Int) + (k : Int)).toNat = I + k := by omega
                have k9 : (0 : Int) ≤ (I : Int) + (k : Int) := by omega
                rcases hag with ⟨h, n, h2, _⟩ | ⟨h, _⟩
                · cases h2
                · rw [h] at HAp
                  clear h
                  go_wp2_with fail
                  go_region_held3 (fun w' => w'.cell? ⟨g, 0, none⟩ = some (.int .i64 (Q : Int)) ∧ w'.cell? ⟨g, 1, none⟩ = some (.slice aS (sizeW ws) cS) ∧ w'.cell? ⟨g, 2, none⟩ = some (.slice aN (sizeW ws) cN) ∧ w'.cell? ⟨g, 3, none⟩ = some (.slice aE (sizeW ws) cE))
                    (first | exact ⟨p0, p1, p2, p3⟩ | go_keep)
                    (first | (go_at_call 29; refine (HAp.out _ (HPv.out.below (bel_step HBr.out (Below.refl _ _)))).mono ?_; rintro e w5 ⟨rfl, hb5⟩; have p0 := keeps hb5 p0; have p1 := keeps hb5 p1; have p2 := keeps hb5 p2; have p3 := keeps hb5 p3))
                  have HB5 := hid (show Below w4.heap.size w4 w5 from bel_step HBr.out hb5)
                  clear hb5 HBr HAp hz1 hz2 k1 k2 k3 k4 k5 k6 k7 k8 p0 p1 p2 p3
                  go_wp2
                  go_roundw
                  case rel => exact ⟨k + 1, by omega, by go_num, HB5.out⟩
                  case measure => simp [intOf]; omega
              · go_wp2_with (go_at_call 12; refine (HAw.out _).mono ?_; rintro e w6 ⟨rfl, hb6⟩)
                go_ret
                exact ⟨rfl, bel_step (bel_step HB4.out HBr.out) hb6⟩
          | some m =>
            have hm : m ≤ 100000 := by have := HLe.out m rfl; omega
            simp only [agI, agB, Option.isSome_some]
            go_wp2_with fail
            go_loopw [13] (fun i wr => ∃ k : Nat, I + 1 + k ≤ x.size + 1 ∧ i = .int .i64 k ∧ Below w4.heap.size w4 wr) (fun i _ => x.size + 1 - (intOf i).toNat)
            case atStart => exact ⟨0, by omega, rfl, Below.refl _ _⟩
            case round =>
              obtain ⟨k, hk2, rfl, hbr⟩ := hrel
              have HBr := hid hbr
              have p0 := keeps hbr HPc.out.1
              have p1 := keeps hbr HPc.out.2.1
              have p2 := keeps hbr HPc.out.2.2.1
              have p3 := keeps hbr HPc.out.2.2.2
              clear hbr
              have k4 : IntKind.i64.wrap ((I : Int) + 1) = (I : Int) + 1 := by rw [IntKind.wrap_i64]; omega
              have k5 : IntKind.i64.wrap ((I : Int) + 1 + (k : Int)) = (I : Int) + 1 + (k : Int) := by rw [IntKind.wrap_i64]; omega
              by_cases hlt : I + 1 + k ≤ x.size
              · have hag := HAG.out k hlt
                have HAp := hid (fun X h => apart_any Q ws (.slice aS (sizeW ws) cS) (.slice aN (sizeW ws) cN) (.slice aE (sizeW ws) cE) (x.extract 0 (I + 1 + k)) (y.extract 0 (I + k)) X h HAe.out (by omega) (HEr.out.2 _) (HEr.out.1 _))
                obtain ⟨z1, hz1⟩ : ∃ z, x.extract 0 (I + 1 + k) = z := ⟨_, rfl⟩
                obtain ⟨z2, hz2⟩ : ∃ z, y.extract 0 (I + k) = z := ⟨_, rfl⟩
                rw [hz1, hz2] at HAp hag
                have k1 : (0 : Int) ≤ (I : Int) + 1 + (k : Int) := by omega
                have k2 : (I : Int) + 1 + (k : Int) ≤ (x.size : Int) := by omega
                have k3 : ((I : Int) + 1 + (k : Int)).toNat = I + 1 + k := by omega
                have k6 : IntKind.i64.wrap ((I : Int) + (k : Int)) = (I : Int) + (k : Int) := by rw [IntKind.wrap_i64]; omega
                have k7 : ((I : Int) + (k : Int)) ≤ (y.size : Int) := by have := HYs.out; omega
                have k8 : ((I : Int) + (k : Int)).toNat = I + k := by omega
                have k9 : (0 : Int) ≤ (I : Int) + (k : Int) := by omega
                rcases hag with ⟨h, n, h2, h3⟩ | ⟨h, h2⟩
                · cases h2
                  rw [h] at HAp
                  have hg : decide (m ≤ k) = true := by simp; omega
                  clear h h3
                  go_wp2_with fail
                  go_region_held3 (fun w' => w'.cell? ⟨g, 0, none⟩ = some (.int .i64 (Q : Int)) ∧ w'.cell? ⟨g, 1, none⟩ = some (.slice aS (sizeW ws) cS) ∧ w'.cell? ⟨g, 2, none⟩ = some (.slice aN (sizeW ws) cN) ∧ w'.cell? ⟨g, 3, none⟩ = some (.slice aE (sizeW ws) cE))
                    (first | exact ⟨p0, p1, p2, p3⟩ | go_keep)
                    (first | (go_at_call 29; refine (HAp.out _ (HPv.out.below (bel_step HBr.out (Below.refl _ _)))).mono ?_; rintro e w5 ⟨rfl, hb5⟩; have p0 := keeps hb5 p0; have p1 := keeps hb5 p1; have p2 := keeps hb5 p2; have p3 := keeps hb5 p3))
                  have HB5 := hid (show Below w4.heap.size w4 w5 from bel_step HBr.out hb5)
                  clear hb5 HBr HAp hz1 hz2 k1 k2 k3 k4 k5 k6 k7 k8 p0 p1 p2 p3
                  go_wp2
                  go_roundw
                  case rel => exact ⟨k + 1, by omega, by go_num, HB5.out⟩
                  case measure => simp [intOf]; omega
                · have h3 := h2 m rfl
                  rw [h] at HAp
                  have hg : decide (m ≤ k) = false := by simp; omega
                  clear h h2 h3
                  go_wp2_with fail
                  go_region_held3 (fun w' => w'.cell? ⟨g, 0, none⟩ = some (.int .i64 (Q : Int)) ∧ w'.cell? ⟨g, 1, none⟩ = some (.slice aS (sizeW ws) cS) ∧ w'.cell? ⟨g, 2, none⟩ = some (.slice aN (sizeW ws) cN) ∧ w'.cell? ⟨g, 3, none⟩ = some (.slice aE (sizeW ws) cE))
                    (first | exact ⟨p0, p1, p2, p3⟩ | go_keep)
                    (first | (go_at_call 29; refine (HAp.out _ (HPv.out.below (bel_step HBr.out (Below.refl _ _)))).mono ?_; rintro e w5 ⟨rfl, hb5⟩; have p0 := keeps hb5 p0; have p1 := keeps hb5 p1; have p2 := keeps hb5 p2; have p3 := keeps hb5 p3))
                  have HB5 := hid (show Below w4.heap.size w4 w5 from bel_step HBr.out hb5)
                  clear hb5 HBr HAp hz1 hz2 k1 k2 k3 k4 k5 k6 k7 k8 p0 p1 p2 p3
                  go_wp2
                  go_roundw
                  case rel => exact ⟨k + 1, by omega, by go_num, HB5.out⟩
                  case measure => simp [intOf]; omega
              · go_wp2_with (go_at_call 12; refine (HAw.out _).mono ?_; rintro e w6 ⟨rfl, hb6⟩)
                go_ret
                exact ⟨rfl, bel_step (bel_step HB4.out HBr.out) hb6⟩
        · have hn : (wordErr Q x != 0) = true := by simp [h3]
          generalize wordErr Q x = E at *
          go_wp2_with (first
            | (go_at_call 21; refine (HCk.out _).mono ?_; rintro e w' ⟨rfl, hD⟩)
            | (go_at_call 12; refine (HAw.out _).mono ?_; rintro e w2 ⟨rfl, hb2⟩))
          go_ret
          exact ⟨rfl, bel_step (bel_step HBp.out (hD.below _)) hb2⟩
end Go.Proofs.Ytalklhjmnoodeaa
