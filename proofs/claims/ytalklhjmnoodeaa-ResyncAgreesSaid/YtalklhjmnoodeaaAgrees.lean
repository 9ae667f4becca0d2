/-
  groovelaw45.ResyncAgrees: behind the delay, and not before, both parsers are in the same state.
  No condition beyond the words lying in a slice.
-/
import Derived.Test.YtalklhjmnoodeaaAwake45
import Derived.Test.YtalklhjmnoodeaaLawMach
import Derived.Test.YtalklhjmnoodeaaApart
import Derived.Test.YtalklhjmnoodeaaBoundErr
namespace Go.Proofs.Ytalklhjmnoodeaa
open Go.RowKit Go.Deep
set_option linter.unusedVariables false

theorem delay_le {ws : List ByteArray} {x : ByteArray} {A B m : Nat} (h : delayR ws x A B = some m) : m ≤ x.size := by
  have := (firstN_some.1 h).1
  rw [List.length_drop, ba_len] at this
  omega
/-- Where both are read up to a place behind the letter. -/
theorem agree_law {ws : List ByteArray} {x : ByteArray} {A B k : Nat} (hA : A < x.size) (hk : A + 1 ≤ k) (hk2 : k ≤ x.size) :
    (runN (nxN ws) 0 ((otherW x A B).extract 0 k).data.toList == runN (nxN ws) 0 (x.extract 0 k).data.toList) = true ∧ (∃ n, delayR ws x A B = some n ∧ A + 1 + n ≤ k) ∨
    (runN (nxN ws) 0 ((otherW x A B).extract 0 k).data.toList == runN (nxN ws) 0 (x.extract 0 k).data.toList) = false ∧ ∀ n, delayR ws x A B = some n → k < A + 1 + n := by
  have hl1 : (x.data.toList.take A ++ [lettersL.getD B 0]).length = A + 1 := by rw [List.length_append, List.length_take, ba_len]; simp; omega
  have hl2 : (x.data.toList.take (A + 1)).length = A + 1 := by rw [List.length_take, ba_len]; omega
  have h := run_behind (nxN ws) (r := x.data.toList.drop (A + 1)) hl1 hl2 (k1 := k) (k2 := k) (j := k - (A + 1)) (by omega) (by omega)
  rw [← otherW_list x hA, List.take_append_drop, ← pre_list, ← pre_list, agAt_symm] at h
  rw [h]
  have hj : k - (A + 1) ≤ (x.data.toList.drop (A + 1)).length := by rw [List.length_drop, ba_len]; omega
  rcases agree_cases (nx := nxN ws) (s := runN (nxN ws) 0 (x.data.toList.take (A + 1))) (t := runN (nxN ws) 0 (x.data.toList.take A ++ [lettersL.getD B 0])) hj with ⟨h1, n, h2, h3⟩ | ⟨h1, h2⟩
  · left; exact ⟨h1, n, h2, by omega⟩
  · right; exact ⟨h1, fun n hn => by have := h2 n hn; omega⟩

set_option maxRecDepth 100000 in
set_option maxHeartbeats 4000000 in
theorem resyncAgrees_any (q : Int) (v : Value) (ws : List ByteArray) (x : ByteArray) (A B : Int) (w : World) (hl : Sl 1 w v ws.length (strs ws)) (_hx : x.size ≤ maxLen) (hA0 : IntKind.u8.min ≤ A) (hA1 : A ≤ IntKind.u8.max) (hB0 : IntKind.u8.min ≤ B) (hB1 : B ≤ IntKind.u8.max) :
    Calls Try.prog 7 #[.agg #[.int .i64 q, v], .string x, .int .u8 A, .int .u8 B] w fun e w' => e = .returned (.bool true) ∧ Below w.heap.size w w' := by
  have hA0 : 0 ≤ A := hA0
  have hA1 : A ≤ 255 := hA1
  have hB0 : 0 ≤ B := hB0
  have hB1 : B ≤ 255 := hB1
  have HL := hid hl
  have HMa := hid (fun X h => mach_any q v ws X h)
  have HDe := hid (fun (A B : Int) X h => delay_any q v ws x A B X h)
  have HCk := hid (fun X => wcheck_any q x X)
  have HAw := hid awake_any
  obtain ⟨ao, cap, rfl, _, hl1, hl2, hl3⟩ := hl
  clear hl3
  go_enter Try.func7, Try.ntmps7
  go_upto_region 1 with fail
  obtain ⟨w0, hw0⟩ : ∃ w0, w.alloc (.cells #[.int .i64 q, .slice ao ws.length cap] 24) = w0 := ⟨_, rfl⟩
  obtain ⟨hb0, c0, c1⟩ := boxed hw0
  rw [hw0]
  have HB0 := hid hb0
  clear hw0 hb0
  cases hM : machB q ws
  · have HM := hid hM
    go_wp2_with (first
      | (go_at_call 19; refine (HMa.out _ (HL.out.below HB0.out)).mono ?_; rintro e w1 (⟨_, ⟨a, aS, aN, aE, nS, cS, nN, cN, nE, cE, rfl⟩, hb1⟩ | ⟨h0, _⟩); rotate_left; (exact absurd (HM.out.symm.trans h0) (by decide)); have HB1 := hid (bel_step HB0.out hb1))
      | (go_at_call 12; refine (HAw.out _).mono ?_; rintro e w2 ⟨rfl, hb2⟩))
    go_ret
    exact ⟨rfl, bel_step (bel_step HB1.out (bel_alloc _ _)) hb2⟩
  · obtain ⟨hA, h16⟩ := machB_true hM
    have hm := mach_of hA
    have HM := hid hM
    obtain ⟨Q, rfl⟩ : ∃ Q : Nat, q = Q := ⟨q.toNat, by have := hm.q2; omega⟩
    have HMm := hid hm
    have HAe := hid hA
    have hq16 := hm.q16
    have hq2 := hm.q2
    clear hM hm hA
    go_upto_region 2 with (go_at_call 19; refine (HMa.out _ (HL.out.below HB0.out)).mono ?_; rintro e w1 (⟨h0, _⟩ | ⟨_, vS, vN, vE, rfl, hres, hb1⟩); (exact absurd (HM.out.symm.trans h0) (by decide)); have HB1 := hid (bel_step HB0.out hb1); have c0 := keeps hb1 c0; have c1 := keeps hb1 c1; obtain ⟨aS, cS, aN, cN, aE, cE, rfl, rfl, rfl⟩ := hres.slices)
    obtain ⟨wp, hwp⟩ : ∃ wp, w1.alloc (.cells #[.int .i64 (Q : Int), .slice aS (sizeW ws) cS, .slice aN (sizeW ws) cN, .slice aE (sizeW ws) cE] 36) = wp := ⟨_, rfl⟩
    obtain ⟨hbp, p0, p1, p2, p3⟩ := boxP hwp
    rw [hwp]
    have HBp := hid (bel_step HB1.out hbp)
    have c0 := keeps hbp c0
    have c1 := keeps hbp c1
    have HPv := hid (show PVal wp (.slice aS (sizeW ws) cS) (.slice aN (sizeW ws) cN) (.slice aE (sizeW ws) cE) (sizeW ws) Q (stW ws) (nxI ws) (emI ws) by have h := (hres.keep hbp).pval (by omega); rw [Int.toNat_natCast] at h; exact h)
    clear hwp hbp hb1 hres
    generalize w1.heap.size = g at *
    have HS := hid (empty_eq x)
    by_cases h1 : x.size = 0
    · have he : x.toList.isEmpty = true := by rw [HS.out]; simpa using h1
      clear HS
      go_wp2_with (go_at_call 12; refine (HAw.out _).mono ?_; rintro e w2 ⟨rfl, hb2⟩)
      go_ret
      exact ⟨rfl, bel_step HBp.out hb2⟩
    · have he : x.toList.isEmpty = false := by rw [HS.out]; simpa using h1
      by_cases h2 : 40 < x.size
      · have hg : decide ((40 : Int) < (x.size : Int)) = true := by simp; omega
        clear HS
        go_wp2_with (go_at_call 12; refine (HAw.out _).mono ?_; rintro e w2 ⟨rfl, hb2⟩)
        go_ret
        exact ⟨rfl, bel_step HBp.out hb2⟩
      · have hg : decide ((40 : Int) < (x.size : Int)) = false := by simp; omega
        by_cases h3 : wordErr Q x = 0
        · have hn : (wordErr Q x != 0) = false := by simp [h3]
          have HX := hid (And.intro h1 (And.intro h2 h3))
          have HOk := hid (wordErr_zero.1 h3).2.2.2
          obtain ⟨a, rfl⟩ : ∃ a : Nat, A = a := ⟨A.toNat, by omega⟩
          obtain ⟨b, rfl⟩ : ∃ b : Nat, B = b := ⟨B.toNat, by omega⟩
          clear HS
          obtain ⟨I, hI⟩ : ∃ I : Nat, (a : Int) % (x.size : Int) = (I : Int) := ⟨a % x.size, by rw [Int.natCast_emod]⟩
          have hIx : I < x.size := by have := Int.emod_lt_of_pos (a : Int) (show (0 : Int) < x.size by omega); omega
          obtain ⟨L, hL⟩ : ∃ L : Nat, (b : Int) % (Q : Int) = (L : Int) := ⟨b % Q, by rw [Int.natCast_emod]⟩
          have hLQ : L < Q := by have := Int.emod_lt_of_pos (b : Int) (show (0 : Int) < Q by omega); omega
          have HD0 := hid (show dErr Q ws x I L = 0 by
            rw [dErr, if_neg, if_neg (by omega)]
            rw [bnd_err HAe.out (by omega) h3]; simp)
          generalize wordErr Q x = E at *
          subst h3
          go_upto_region 4 with (go_at_call 21; refine (HCk.out _).mono ?_; rintro e w' ⟨rfl, hD⟩; have c0 := keeps (hD.below _) c0; have c1 := keeps (hD.below _) c1; have p0 := keeps (hD.below _) p0; have p1 := keeps (hD.below _) p1; have p2 := keeps (hD.below _) p2; have p3 := keeps (hD.below _) p3; have HB2 := hid (bel_step HBp.out (hD.below _)); have HPv := hid (HPv.out.below (hD.below _)); clear hD)
          have hT0 : IntKind.i64.wrap (b : Int) = (b : Int) := by rw [IntKind.wrap_i64]; omega
          have hT1 : (b : Int).tmod (Q : Int) = (L : Int) := by rw [Int.tmod_eq_emod_of_nonneg (by omega)]; exact hL
          have hT2 : IntKind.i64.wrap (a : Int) = (a : Int) := by rw [IntKind.wrap_i64]; omega
          have hT3 : (a : Int).tmod (x.size : Int) = (I : Int) := by rw [Int.tmod_eq_emod_of_nonneg (by omega)]; exact hI
          have hT4 : ¬ Q = 0 := by omega
          have hT5 : ¬ x.size = 0 := h1
          go_quiet (fail)
          have HDn := hid (Dr.drewN (Dr.refl w') nq)
          have c0 : (w'.drewN nq).cell? ⟨w.heap.size, 0, none⟩ = some (.int .i64 (Q : Int)) := c0
          have c1 : (w'.drewN nq).cell? ⟨w.heap.size, 1, none⟩ = some (.slice ao ws.length cap) := c1
          have p0 : (w'.drewN nq).cell? ⟨g, 0, none⟩ = some (.int .i64 (Q : Int)) := p0
          have p1 : (w'.drewN nq).cell? ⟨g, 1, none⟩ = some (.slice aS (sizeW ws) cS) := p1
          have p2 : (w'.drewN nq).cell? ⟨g, 2, none⟩ = some (.slice aN (sizeW ws) cN) := p2
          have p3 : (w'.drewN nq).cell? ⟨g, 3, none⟩ = some (.slice aE (sizeW ws) cE) := p3
          have HBq := hid (bel_step HB2.out (HDn.out.below _))
          have HPv := hid (HPv.out.below (HDn.out.below _))
          clear hT0 hT1 hT2 hT3 hT4 hT5 hI hL HDn HB2
          generalize w'.drewN nq = wq at *
          have HOt := hid (fun X => other_any x I L X hIx (by omega) (by omega))
          have HAG := hid (fun k h1 h2 => agree_law (ws := ws) (B := L) (k := k) hIx h1 h2)
          have HYs := hid (otherW_size x (a := L) hIx)
          have HEr := hid (And.intro (fun k => err_pre (by omega) (by omega) (ok_other HOk.out hIx hLQ (by omega)) (by rw [otherW_size x hIx]; omega) k) (fun k => err_pre (Q := Q) (by omega) (by omega) HOk.out (by omega) k))
          generalize otherW x I L = y at *
          go_upto_region 7 with (first
            | (go_at_call 28; refine (HOt.out _).mono ?_; rintro e w3 ⟨rfl, hD3⟩; have c0 := keeps (hD3.below _) c0; have c1 := keeps (hD3.below _) c1; have p0 := keeps (hD3.below _) p0; have p1 := keeps (hD3.below _) p1; have p2 := keeps (hD3.below _) p2; have p3 := keeps (hD3.below _) p3; have HB3 := hid (bel_step HBq.out (hD3.below _)); have HPv := hid (HPv.out.below (hD3.below _)); clear hD3)
            | (go_at_call 13; refine (HDe.out I L _ (HL.out.below HB3.out)).mono ?_; rintro e w4 ⟨hb4, ⟨hne, _⟩ | ⟨_, rfl⟩⟩; (exact absurd HD0.out hne); have p0 := keeps hb4 p0; have p1 := keeps hb4 p1; have p2 := keeps hb4 p2; have p3 := keeps hb4 p3; have HB4 := hid (bel_step HB3.out hb4); have HPv := hid (HPv.out.below hb4); clear hb4))
          have HPc := hid (And.intro p0 (And.intro p1 (And.intro p2 p3)))
          clear p0 p1 p2 p3 c0 c1 HDe HOt HD0
          have HLe := hid (fun m h => delay_le (ws := ws) (x := x) (A := I) (B := L) (m := m) h)
          generalize delayR ws x I L = o at *
          cases o with
          | none =>
            simp only [agI, agB, Option.isSome_none]
            go_upto_region 9 with fail
            go_wp2_with fail
            go_loopw [16] (fun i wr => ∃ k : Nat, I + 1 ≤ k ∧ k ≤ x.size + 1 ∧ i = .int .i64 k ∧ Below w4.heap.size w4 wr) (fun i _ => x.size + 1 - (intOf i).toNat)
            case atStart => exact ⟨I + 1, Nat.le_refl _, by omega, by go_num, Below.refl _ _⟩
            case round =>
              obtain ⟨k, hk1, hk2, rfl, hbr⟩ := hrel
              have HBr := hid hbr
              have p0 := keeps hbr HPc.out.1
              have p1 := keeps hbr HPc.out.2.1
              have p2 := keeps hbr HPc.out.2.2.1
              have p3 := keeps hbr HPc.out.2.2.2
              clear hbr
              by_cases hlt : k ≤ x.size
              · have hag := HAG.out k hk1 hlt
                have HAp := hid (fun X h => apart_any Q ws (.slice aS (sizeW ws) cS) (.slice aN (sizeW ws) cN) (.slice aE (sizeW ws) cE) (y.extract 0 k) (x.extract 0 k) X h HAe.out (by omega) (HEr.out.1 k) (HEr.out.2 k))
                obtain ⟨z1, hz1⟩ : ∃ z, y.extract 0 k = z := ⟨_, rfl⟩
                obtain ⟨z2, hz2⟩ : ∃ z, x.extract 0 k = z := ⟨_, rfl⟩
                rw [hz1, hz2] at HAp hag
                have k1 : (0 : Int) ≤ (k : Int) := by omega
                have k2 : (k : Int) ≤ (y.size : Int) := by have := HYs.out; omega
                have k3 : (k : Int) ≤ (x.size : Int) := by omega
                have k4 : IntKind.i64.wrap ((I : Int) + 1) = (I : Int) + 1 := by rw [IntKind.wrap_i64]; omega
                rcases hag with ⟨h, n, h2, _⟩ | ⟨h, _⟩
                · cases h2
                · rw [h] at HAp
                  clear h
                  go_wp2_with fail
                  refine wp_region_held_drew (S := (fun w' => w'.cell? ⟨g, 0, none⟩ = some (.int .i64 (Q : Int)) ∧ w'.cell? ⟨g, 1, none⟩ = some (.slice aS (sizeW ws) cS) ∧ w'.cell? ⟨g, 2, none⟩ = some (.slice aN (sizeW ws) cN) ∧ w'.cell? ⟨g, 3, none⟩ = some (.slice aE (sizeW ws) cE))) (by kernel_rfl) ⟨p0, p1, p2, p3⟩ (fun hHeld => ?_)
                  refine wpAnyH_take (i := 0) (v := .agg #[.int .i64 (Q : Int), .slice aS (sizeW ws) cS, .slice aN (sizeW ws) cN, .slice aE (sizeW ws) cE]) rfl (by kernel_rfl) (by kernel_rfl) (by kernel_rfl) (fun _ _ _ h => h) (Or.inl ⟨by rfl, fun w hSw => ?_⟩) (by assumption) ?_
                  · (try dsimp only at hSw); go_simp
                  simp only [Act.put, List.setIfInBounds_toArray, List.set_cons_zero, List.set_cons_succ, List.getElem_toArray, List.getElem_cons_zero]
                  refine wpAnyH_take (i := 1) (v := .string y) rfl (by kernel_rfl) (by kernel_rfl) (by kernel_rfl) (fun _ _ _ h => h) (Or.inl ⟨by rfl, fun w hSw => ?_⟩) (by assumption) ?_
                  · (try dsimp only at hSw); go_simp
                  simp only [Act.put, List.setIfInBounds_toArray, List.set_cons_zero, List.set_cons_succ, List.getElem_toArray, List.getElem_cons_zero, List.getElem_cons_succ]
                  refine wpAnyH_take (i := 2) (v := .int .i64 (k : Int)) rfl (by kernel_rfl) (by kernel_rfl) (by kernel_rfl) (fun _ _ _ h => h) (Or.inl ⟨by rfl, fun w hSw => ?_⟩) (by assumption) ?_
                  · (try dsimp only at hSw); go_simp
                  simp only [Act.put, List.setIfInBounds_toArray, List.set_cons_zero, List.set_cons_succ, List.getElem_toArray, List.getElem_cons_zero, List.getElem_cons_succ]
                  refine wpAnyH_take (i := 3) (v := .string z1) rfl (by kernel_rfl) (by kernel_rfl) (by kernel_rfl) (fun _ _ _ h => h) (Or.inl ⟨by rfl, fun w hSw => ?_⟩) (by assumption) ?_
                  · (try dsimp only at hSw); go_simp
                  simp only [Act.put, List.setIfInBounds_toArray, List.set_cons_zero, List.set_cons_succ, List.getElem_toArray, List.getElem_cons_zero, List.getElem_cons_succ]
                  refine wpAnyH_take (i := 4) (v := .string x) rfl (by kernel_rfl) (by kernel_rfl) (by kernel_rfl) (fun _ _ _ h => h) (Or.inl ⟨by rfl, fun w hSw => ?_⟩) (by assumption) ?_
                  · (try dsimp only at hSw); go_simp
                  simp only [Act.put, List.setIfInBounds_toArray, List.set_cons_zero, List.set_cons_succ, List.getElem_toArray, List.getElem_cons_zero, List.getElem_cons_succ]
                  refine wpAnyH_take (i := 5) (v := .int .i64 (k : Int)) rfl (by kernel_rfl) (by kernel_rfl) (by kernel_rfl) (fun _ _ _ h => h) (Or.inl ⟨by rfl, fun w hSw => ?_⟩) (by assumption) ?_
                  · (try dsimp only at hSw); go_simp
                  simp only [Act.put, List.setIfInBounds_toArray, List.set_cons_zero, List.set_cons_succ, List.getElem_toArray, List.getElem_cons_zero, List.getElem_cons_succ]
                  refine wpAnyH_take (i := 6) (v := .string z2) rfl (by kernel_rfl) (by kernel_rfl) (by kernel_rfl) (fun _ _ _ h => h) (Or.inl ⟨by rfl, fun w hSw => ?_⟩) (by assumption) ?_
                  · (try dsimp only at hSw); go_simp
                  simp only [Act.put, List.setIfInBounds_toArray, List.set_cons_zero, List.set_cons_succ, List.getElem_toArray, List.getElem_cons_zero, List.getElem_cons_succ]
                  refine wpAnyH_take (i := 8) (v := .bool false) rfl (by kernel_rfl) (by kernel_rfl) (by kernel_rfl) (fun _ _ _ h => h) (Or.inl ⟨by rfl, fun w hSw => ?_⟩) (by assumption) ?_
                  · (try dsimp only at hSw); go_simp
                  simp only [Act.put, List.setIfInBounds_toArray, List.set_cons_zero, List.set_cons_succ, List.getElem_toArray, List.getElem_cons_zero, List.getElem_cons_succ]
                  refine wpAnyH_ready (rs := [7]) (by kernel_rfl) (by simp) (AllReadyH.cons rfl (fun K hK => ?_) AllReadyH.nil)
                  go_simp
                  (go_at_call 29; refine (HAp.out _ (HPv.out.below (bel_step HBr.out (Below.refl _ _)))).mono ?_; rintro e w5 ⟨rfl, hb5⟩; have p0 := keeps hb5 p0; have p1 := keeps hb5 p1; have p2 := keeps hb5 p2; have p3 := keeps hb5 p3)
                  try go_wp2_with fail
                  refine hK.out _ _ ⟨p0, p1, p2, p3⟩ (fun hHeld2 => ?_)
                  clear hK K hHeld
                  try simp only [Act.put, List.setIfInBounds_toArray, List.set_cons_zero, List.set_cons_succ, List.getElem_toArray, List.getElem_cons_zero, List.getElem_cons_succ]
                  refine wpAnyH_take (i := 9) (v := .bool false) rfl (by kernel_rfl) (by kernel_rfl) (by kernel_rfl) (fun _ _ _ h => h) (Or.inl ⟨by rfl, fun w hSw => ?_⟩) (by assumption) ?_
                  · (try dsimp only at hSw); go_simp
                  simp only [Act.put, List.setIfInBounds_toArray, List.set_cons_zero, List.set_cons_succ, List.getElem_toArray, List.getElem_cons_zero, List.getElem_cons_succ]
                  refine wpAnyH_take (i := 10) (v := undef) rfl (by kernel_rfl) (by kernel_rfl) (by kernel_rfl) (fun _ _ _ h => h) (Or.inr ⟨by rfl, rfl⟩) (by assumption) ?_
                  simp only [Act.put, List.setIfInBounds_toArray, List.set_cons_zero, List.set_cons_succ, List.getElem_toArray, List.getElem_cons_zero, List.getElem_cons_succ]
                  refine wpAnyH_take (i := 11) (v := undef) rfl (by kernel_rfl) (by kernel_rfl) (by kernel_rfl) (fun _ _ _ h => h) (Or.inr ⟨by rfl, rfl⟩) (by assumption) ?_
                  simp only [Act.put, List.setIfInBounds_toArray, List.set_cons_zero, List.set_cons_succ, List.getElem_toArray, List.getElem_cons_zero, List.getElem_cons_succ]
                  refine wpAnyH_take (i := 12) (v := undef) rfl (by kernel_rfl) (by kernel_rfl) (by kernel_rfl) (fun _ _ _ h => h) (Or.inr ⟨by rfl, rfl⟩) (by assumption) ?_
                  simp only [Act.put, List.setIfInBounds_toArray, List.set_cons_zero, List.set_cons_succ, List.getElem_toArray, List.getElem_cons_zero, List.getElem_cons_succ]
                  refine wpAnyH_take (i := 13) (v := undef) rfl (by kernel_rfl) (by kernel_rfl) (by kernel_rfl) (fun _ _ _ h => h) (Or.inr ⟨by rfl, rfl⟩) (by assumption) ?_
                  simp only [Act.put, List.setIfInBounds_toArray, List.set_cons_zero, List.set_cons_succ, List.getElem_toArray, List.getElem_cons_zero, List.getElem_cons_succ]
                  refine wpAnyH_take (i := 14) (v := undef) rfl (by kernel_rfl) (by kernel_rfl) (by kernel_rfl) (fun _ _ _ h => h) (Or.inr ⟨by rfl, rfl⟩) (by assumption) ?_
                  simp only [Act.put, List.setIfInBounds_toArray, List.set_cons_zero, List.set_cons_succ, List.getElem_toArray, List.getElem_cons_zero, List.getElem_cons_succ]
                  refine wpAnyH_take (i := 15) (v := undef) rfl (by kernel_rfl) (by kernel_rfl) (by kernel_rfl) (fun _ _ _ h => h) (Or.inr ⟨by rfl, rfl⟩) (by assumption) ?_
                  simp only [Act.put, List.setIfInBounds_toArray, List.set_cons_zero, List.set_cons_succ, List.getElem_toArray, List.getElem_cons_zero, List.getElem_cons_succ]
                  refine wpAnyH_take (i := 16) (v := .bool false) rfl (by kernel_rfl) (by kernel_rfl) (by kernel_rfl) (fun _ _ _ h => h) (Or.inl ⟨by rfl, fun w hSw => ?_⟩) (by assumption) ?_
                  · (try dsimp only at hSw); go_simp
                  simp only [Act.put, List.setIfInBounds_toArray, List.set_cons_zero, List.set_cons_succ, List.getElem_toArray, List.getElem_cons_zero, List.getElem_cons_succ]
                  refine wpAnyH_take (i := 17) (v := .bool false) rfl (by kernel_rfl) (by kernel_rfl) (by kernel_rfl) (fun _ _ _ h => h) (Or.inl ⟨by rfl, fun w hSw => ?_⟩) (by assumption) ?_
                  · (try dsimp only at hSw); go_simp
                  simp only [Act.put, List.setIfInBounds_toArray, List.set_cons_zero, List.set_cons_succ, List.getElem_toArray, List.getElem_cons_zero, List.getElem_cons_succ]
                  refine wpAnyH_done (by kernel_rfl) ?_ _
                  have HB5 := hid (show Below w4.heap.size w4 w5 from bel_step HBr.out hb5)
                  clear hb5 HBr HAp hz1 hz2 k1 k2 k3 k4 p0 p1 p2 p3
                  go_wp2
                  go_roundw
                  case rel => exact ⟨k + 1, by omega, by omega, by go_num, HB5.out⟩
                  case measure => simp [intOf]; omega
              · go_wp2_with (go_at_call 12; refine (HAw.out _).mono ?_; rintro e w6 ⟨rfl, hb6⟩)
                go_ret
                exact ⟨rfl, bel_step (bel_step HB4.out HBr.out) hb6⟩
          | some m =>
            have hm : m ≤ 100000 := by have := HLe.out m rfl; omega
            simp only [agI, agB, Option.isSome_some]
            go_upto_region 9 with fail
            go_wp2_with fail
            go_loopw [16] (fun i wr => ∃ k : Nat, I + 1 ≤ k ∧ k ≤ x.size + 1 ∧ i = .int .i64 k ∧ Below w4.heap.size w4 wr) (fun i _ => x.size + 1 - (intOf i).toNat)
            case atStart => exact ⟨I + 1, Nat.le_refl _, by omega, by go_num, Below.refl _ _⟩
            case round =>
              obtain ⟨k, hk1, hk2, rfl, hbr⟩ := hrel
              have HBr := hid hbr
              have p0 := keeps hbr HPc.out.1
              have p1 := keeps hbr HPc.out.2.1
              have p2 := keeps hbr HPc.out.2.2.1
              have p3 := keeps hbr HPc.out.2.2.2
              clear hbr
              by_cases hlt : k ≤ x.size
              · have hag := HAG.out k hk1 hlt
                have HAp := hid (fun X h => apart_any Q ws (.slice aS (sizeW ws) cS) (.slice aN (sizeW ws) cN) (.slice aE (sizeW ws) cE) (y.extract 0 k) (x.extract 0 k) X h HAe.out (by omega) (HEr.out.1 k) (HEr.out.2 k))
                obtain ⟨z1, hz1⟩ : ∃ z, y.extract 0 k = z := ⟨_, rfl⟩
                obtain ⟨z2, hz2⟩ : ∃ z, x.extract 0 k = z := ⟨_, rfl⟩
                rw [hz1, hz2] at HAp hag
                have k1 : (0 : Int) ≤ (k : Int) := by omega
                have k2 : (k : Int) ≤ (y.size : Int) := by have := HYs.out; omega
                have k3 : (k : Int) ≤ (x.size : Int) := by omega
                have k4 : IntKind.i64.wrap ((I : Int) + 1) = (I : Int) + 1 := by rw [IntKind.wrap_i64]; omega
                have k5 : IntKind.i64.wrap ((I : Int) + 1 + (m : Int)) = (I : Int) + 1 + (m : Int) := by rw [IntKind.wrap_i64]; omega
                rcases hag with ⟨h, n, h2, h3⟩ | ⟨h, h2⟩
                · cases h2
                  rw [h] at HAp
                  have hg : decide ((I : Int) + 1 + (m : Int) ≤ (k : Int)) = true := by simp; omega
                  clear h h3
                  go_wp2_with fail
                  go_region_held3 (fun w' => w'.cell? ⟨g, 0, none⟩ = some (.int .i64 (Q : Int)) ∧ w'.cell? ⟨g, 1, none⟩ = some (.slice aS (sizeW ws) cS) ∧ w'.cell? ⟨g, 2, none⟩ = some (.slice aN (sizeW ws) cN) ∧ w'.cell? ⟨g, 3, none⟩ = some (.slice aE (sizeW ws) cE))
                    (first | exact ⟨p0, p1, p2, p3⟩ | go_keep)
                    (first | (go_at_call 29; refine (HAp.out _ (HPv.out.below (bel_step HBr.out (Below.refl _ _)))).mono ?_; rintro e w5 ⟨rfl, hb5⟩; have p0 := keeps hb5 p0; have p1 := keeps hb5 p1; have p2 := keeps hb5 p2; have p3 := keeps hb5 p3))
                  have HB5 := hid (show Below w4.heap.size w4 w5 from bel_step HBr.out hb5)
                  clear hb5 HBr HAp hz1 hz2 k1 k2 k3 k4 k5 p0 p1 p2 p3
                  go_wp2
                  go_roundw
                  case rel => exact ⟨k + 1, by omega, by omega, by go_num, HB5.out⟩
                  case measure => simp [intOf]; omega
                · have h3 := h2 m rfl
                  rw [h] at HAp
                  have hg : decide ((I : Int) + 1 + (m : Int) ≤ (k : Int)) = false := by simp; omega
                  clear h h2 h3
                  go_wp2_with fail
                  go_region_held3 (fun w' => w'.cell? ⟨g, 0, none⟩ = some (.int .i64 (Q : Int)) ∧ w'.cell? ⟨g, 1, none⟩ = some (.slice aS (sizeW ws) cS) ∧ w'.cell? ⟨g, 2, none⟩ = some (.slice aN (sizeW ws) cN) ∧ w'.cell? ⟨g, 3, none⟩ = some (.slice aE (sizeW ws) cE))
                    (first | exact ⟨p0, p1, p2, p3⟩ | go_keep)
                    (first | (go_at_call 29; refine (HAp.out _ (HPv.out.below (bel_step HBr.out (Below.refl _ _)))).mono ?_; rintro e w5 ⟨rfl, hb5⟩; have p0 := keeps hb5 p0; have p1 := keeps hb5 p1; have p2 := keeps hb5 p2; have p3 := keeps hb5 p3))
                  have HB5 := hid (show Below w4.heap.size w4 w5 from bel_step HBr.out hb5)
                  clear hb5 HBr HAp hz1 hz2 k1 k2 k3 k4 k5 p0 p1 p2 p3
                  go_wp2
                  go_roundw
                  case rel => exact ⟨k + 1, by omega, by omega, by go_num, HB5.out⟩
                  case measure => simp [intOf]; omega
              · go_wp2_with (go_at_call 12; refine (HAw.out _).mono ?_; rintro e w6 ⟨rfl, hb6⟩)
                go_ret
                exact ⟨rfl, bel_step (bel_step HB4.out HBr.out) hb6⟩
        · have hn : (wordErr Q x != 0) = true := by simp [h3]
          generalize wordErr Q x = E at *
          go_wp2_with (first
            | (go_at_call 21; refine (HCk.out _).mono ?_; rintro e w' ⟨rfl, hD⟩)
            | (go_at_call 12; refine (HAw.out _).mono ?_; rintro e w2 ⟨rfl, hb2⟩))
          go_ret
          exact ⟨rfl, bel_step (bel_step HBp.out (hD.below _)) hb2⟩
end Go.Proofs.Ytalklhjmnoodeaa
