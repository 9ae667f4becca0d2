/-
  grooveref45.Synchronizing: what resync.Synchronizing says, too.
  No condition beyond the words lying in a slice.
-/
import Derived.Test.YtalklhjmnoodeaaRefSyncA
namespace Go.Proofs.Ytalklhjmnoodeaa
open Go.RowKit Go.Deep
set_option linter.unusedVariables false

set_option maxRecDepth 100000 in
set_option maxHeartbeats 4000000 in
theorem refsync_any (q : Int) (v : Value) (ws : List ByteArray) (w : World) (hl : Sl 1 w v ws.length (strs ws)) :
    Calls Try.prog 26 #[.agg #[.int .i64 q, v]] w (SPost q ws w) := by
  have HL := hid hl
  have HOf := hid (fun (X : World) h => rof_any q v ws X h)
  obtain ⟨ao, cap, rfl, _, hl1, hl2, hl3⟩ := hl
  clear hl3
  go_enter Try.func26, Try.ntmps26
  go_upto_region 1 with fail
  obtain ⟨w0, hw0⟩ : ∃ w0, w.alloc (.cells #[.int .i64 q, .slice ao ws.length cap] 24) = w0 := ⟨_, rfl⟩
  obtain ⟨hb0, c0, c1⟩ := boxed hw0
  rw [hw0]
  have HB0 := hid hb0
  clear hw0 hb0
  go_upto_region 2 with (go_at_call 42; refine (HOf.out _ (HL.out.below HB0.out)).mono ?_; rintro e w1 ⟨⟨aN, nN, cN, aE, nE, cE, rfl, hM⟩, hb1⟩; have HB1 := hid (bel_step HB0.out hb1); have c0 := keeps hb1 c0)
  obtain ⟨wp, hwp⟩ : ∃ wp, w1.alloc (.cells #[.slice aN nN cN, .slice aE nE cE] 69) = wp := ⟨_, rfl⟩
  obtain ⟨hbp, p0, p1⟩ := boxM hwp
  rw [hwp]
  have HBp := hid (bel_step HB1.out hbp)
  have HMp := hid (fun h => (⟨(hM h).1.below hbp, (hM h).2.below hbp⟩ : Mt wp _ _ _ _ ∧ Mt wp _ _ _ _))
  have c0 := keeps hbp c0
  clear hwp hbp hb1 hM HOf HL c1
  generalize w1.heap.size = g at *
  by_cases hE : rErr q ws [] = 0
  · obtain ⟨hA, h64, hwx⟩ := rErr_zero hE
    have hm := mach_of hA
    obtain ⟨hMN, hME⟩ := HMp.out hE
    have hMN := hMN.congr hm.eq
    obtain ⟨Q, rfl⟩ : ∃ Q : Nat, q = Q := ⟨q.toNat, by have := hm.q2; omega⟩
    have hq16 := hm.q16
    rw [Int.toNat_natCast] at hMN hME
    obtain ⟨_, _, e1, _⟩ := hMN.slice
    obtain ⟨_, _, e2, _⟩ := hME.slice
    simp only [Value.slice.injEq] at e1 e2
    obtain ⟨-, rfl, -⟩ := e1
    obtain ⟨-, rfl, -⟩ := e2
    have HE := hid hE
    have HNx := hid hMN
    have HP := hid (And.intro c0 p0)
    clear hMN hME hA hwx HMp p1
    rw [hE]
    by_cases h16 : 16 < sizeW ws
    · have HD := hid (show sErr Q ws = 4 by rw [sErr, if_neg (by simp [HE.out]), if_pos h16])
      clear hE
      go_wp2
      go_ret3
      exact ⟨HBp.out, .inl ⟨by rw [HD.out]; decide, by rw [HD.out]; rfl⟩⟩
    · have HD := hid (show sErr Q ws = 0 by rw [sErr, if_neg (by simp [HE.out]), if_neg h16])
      have hn16 : sizeW ws ≤ 16 := by omega
      have HC := hid hm.lt
      have HPos := hid hm.pos
      clear hE
      generalize hn : sizeW ws = n at *
      have HRes := hid (show syncN (nxN ws) (sizeW ws) ((Q : Int)).toNat = syncN (nxN ws) n Q by rw [hn, Int.toNat_natCast])
      clear hm h16
      obtain ⟨N, M, z, HNN, HW12, hN1, hN2, hMN⟩ := pow_pack hn16
      have hmk := run_make_row' (P := Try.prog) 86 4 (.bool false) 1 Try.underlying86 Try.infoBool rfl .i64 .i64 N (by omega) (by omega)
      go_upto_region 7 with fail
      obtain ⟨hz, e1, e2⟩ := HW12.out
      have hz0 : 0 ≤ z := by omega
      have hz1 : z ≤ 16 := by omega
      have hSQ := SR.begin wp n N M HNN.out.1 HNN.out.2 hMN
      have hr0 := (World.rowIs_made wp (.bool false) N 4).alloc (.cells #[.int .i64 (M : Int), .string ⟨#[]⟩] 88)
      have r1 := hr0.cell hMN
      have r2 := hr0.frozen M
      have HSQ := hid hSQ
      have HGQ := hid (goodQ_start n)
      have HR0 := hid (show syncN (nxN ws) n Q = bfs (nxN ws) n Q (N + 1) 0 (startQ n) by rw [syncN, HNN.out.1])
      clear hSQ hr0
      go_upto_region 10 with fail
      clear e1 e2 hmk hz0 hz1 HW12 r1 r2 p0 c0
      subst hz
      generalize (wp.alloc (.cells ((madeCells #[.bool false] N).setIfInBounds M (.bool true)) 4)).alloc (.cells #[.int .i64 (M : Int), .string ⟨#[]⟩] 88) = W0 at *
      go_wp2_with fail
      go_loopw [9, 10] (fun u i wr => ∃ k : Nat, i = .int .i64 k ∧ ∃ (Qs : List Ent), k ≤ Qs.length ∧ 0 < Qs.length ∧ SR wp wp.heap.size N Qs u wr ∧ GoodQ n Qs ∧ Hid (WQ Qs) ∧ Hid (syncN (nxN ws) n Q = bfs (nxN ws) n Q (N + 1 - k) k Qs)) (fun _ i _ => N + 1 - (intOf i).toNat)
      case atStart => exact ⟨0, rfl, startQ n, Nat.zero_le _, Nat.zero_lt_one, HSQ.out, HGQ.out, hid (wq_start n), HR0⟩
      case round =>
        obtain ⟨k, rfl, Qs, hk, hL0, hQ, hG, HW, HB⟩ := hrel
        have HQ := hid hQ
        have HG := hid hG
        have hLN : Qs.length ≤ N := by have := goodQ_len hG; rw [HNN.out.1] at this; omega
        obtain ⟨gq, cq, rfl⟩ := hQ.slice hL0
        clear HSQ HGQ HR0 hG
        by_cases hlt : k < Qs.length
        · obtain ⟨x, hx⟩ := some_of_lt hlt
          obtain ⟨q0, q1⟩ := hQ.cells hx
          have HX := hid hx
          clear hQ
          by_cases h1 : x.set = 1
          · have HRs := hid (show syncN (nxN ws) n Q = some x.word by
              rw [HB.out, show N + 1 - k = (N - k) + 1 by omega]
              exact bfs_hit hx h1)
            rw [h1] at q0
            clear hx h1
            go_wp2
            go_ret3
            exact ⟨HBp.out.trans (HQ.out.bel.mono HBp.out.size), .inr ⟨HD.out, by rw [HRes.out, HRs.out]; rfl⟩⟩
          · have hb1 : ((x.set : Int) == 1) = false := by simp; omega
            have HStep := hid (show syncN (nxN ws) n Q = bfs (nxN ws) n Q (N - k) (k + 1) (expandK (nxN ws) n Qs x Q) by
              rw [HB.out, show N + 1 - k = (N - k) + 1 by omega]
              exact bfs_step hx h1)
            clear hx h1 q1
            go_upto_region 16 with fail
            clear hb1 q0
            go_loopw [9, 11] (fun u i wa => ∃ a : Nat, a ≤ Q ∧ i = .int .i64 a ∧ SR wp wp.heap.size N (expandK (nxN ws) n Qs x a) u wa ∧ GoodQ n (expandK (nxN ws) n Qs x a)) (fun _ i _ => Q - (intOf i).toNat)
            case atStart => exact ⟨0, Nat.zero_le _, rfl, HQ.out, HG.out⟩
            case round =>
              obtain ⟨a, ha, rfl, hQa, hGa⟩ := hrel
              have HQa := hid hQa
              have HGa := hid hGa
              have hkx : (expandK (nxN ws) n Qs x a)[k]? = some x := by
                obtain ⟨r, hr⟩ := expandK_pre (nxN ws) n Qs x a
                rw [hr, List.getElem?_append_left (by omega)]
                exact HX.out
              have hkl := lt_of_some hkx
              obtain ⟨ga, ca, rfl⟩ := hQa.slice (by omega)
              have hLaN : (expandK (nxN ws) n Qs x a).length ≤ N := by have := goodQ_len hGa; rw [HNN.out.1] at this; omega
              have HKx := hid hkx
              have c0 := keeps hQa.bel HP.out.1
              clear hQa hGa hkx HQ HG
              by_cases hlt2 : a < Q
              · go_upto_region 20 with fail
                clear c0
                go_loopw [12, 13] (fun v j wj => ∃ s : Nat, s ≤ n ∧ j = .int .i64 s ∧ v = .int .i64 (imgK (nxN ws) x.set a s : Nat) ∧ Dr wr wj) (fun _ j _ => n - (intOf j).toNat)
                case atStart => exact ⟨0, Nat.zero_le _, rfl, rfl, Dr.refl _⟩
                case round =>
                  obtain ⟨s, hs, rfl, rfl, hD⟩ := hrel
                  have HD2 := hid hD
                  have HQj := hid (HQa.out.keep (hD.below _))
                  by_cases hlt3 : s < n
                  · obtain ⟨bn, on, b2, o2, c2, e1, n1, n2⟩ := (HNx.out.below HQj.out.bel).cell hlt3 hlt2
                    subst e1
                    have p2' := keeps HQj.out.bel HP.out.2
                    have q0 := (HQj.out.cells HKx.out).1
                    have hd := HC.out s a
                    have HImg := hid (imgK_lt (nx := nxN ws) HC.out x.set a s)
                    have hbits := i64_and1 ((x.set : Int) / 2 ^ s)
                    have hdiv : ((x.set : Int) / 2 ^ s) % 2 = ((x.set / 2 ^ s % 2 : Nat) : Int) := by simp
                    rw [hdiv] at hbits
                    clear hdiv hD
                    by_cases hbt : x.set / 2 ^ s % 2 = 1
                    · rw [hbt] at hbits
                      have HI := hid (show imgK (nxN ws) x.set a (s + 1) = imgK (nxN ws) x.set a s ||| 2 ^ nxN ws s a by rw [imgK, if_pos hbt])
                      clear hbt
                      generalize imgK (nxN ws) x.set a s = T at *
                      generalize nxN ws s a = d at *
                      have HO := hid (or_step hn16 HImg.out hd)
                      go_wp2
                      go_roundw
                      case rel => exact ⟨s + 1, by omega, by go_num, by rw [HI.out, HO.out], HD2.out⟩
                      case measure => simp [intOf]; omega
                    · have HI := hid (show imgK (nxN ws) x.set a (s + 1) = imgK (nxN ws) x.set a s by rw [imgK, if_neg hbt])
                      have hb0 : x.set / 2 ^ s % 2 = 0 := by omega
                      rw [hb0] at hbits
                      clear hbt hb0
                      go_wp2
                      go_roundw
                      case rel => exact ⟨s + 1, by omega, by go_num, by rw [HI.out], HD2.out⟩
                      case measure => simp [intOf]; omega
                  · have es : s = n := by omega
                    have HI := hid (show imgK (nxN ws) x.set a s = imgK (nxN ws) x.set a n by rw [es])
                    have HTn := hid (imgK_lt (nx := nxN ws) HC.out x.set a n)
                    rw [HI.out]
                    obtain ⟨T, hT⟩ : ∃ T, imgK (nxN ws) x.set a n = T := ⟨_, rfl⟩
                    have HT := hid hT
                    rw [hT] at HTn ⊢
                    have hTN : T < N := by have := HTn.out; rw [HNN.out.1] at this; exact this
                    have r1 := HQj.out.s.cell hTN
                    have r2 := HQj.out.s.frozen T
                    clear hT hD es
                    cases hsn : seenQ (expandK (nxN ws) n Qs x a) T
                    · have HEx := hid (show expandK (nxN ws) n Qs x (a + 1) = expandK (nxN ws) n Qs x a ++ [⟨T, x.word ++ [a]⟩] by rw [expandK, HT.out, if_neg (by rw [hsn]; simp)])
                      have HGx := hid (goodQ_snoc (e := ⟨T, x.word ++ [a]⟩) HGa.out HTn.out hsn)
                      rw [hsn] at r1
                      clear hsn
                      go_upto_region 26 with fail
                      obtain ⟨Wm, hWm⟩ : ∃ Wm, wr.setCell ⟨wp.heap.size, T, none⟩ (.bool true) = Wm := ⟨_, rfl⟩
                      have hm := HQj.out.marked T
                      rw [hWm] at hm ⊢
                      have hq1 : Wm.cell? ⟨ga, k * 2 + 1, none⟩ = some (.string (toStr x.word)) := by
                        obtain ⟨b, o, e, hc⟩ := (Sl.of_owns hm.2.1).cell (rcells_get HKx.out).2
                        simp only [Option.some.injEq, Addr.mk.injEq, and_true] at e
                        obtain ⟨rfl, rfl⟩ := e
                        rw [Nat.zero_add] at hc
                        exact hc
                      have HWm := hid hWm
                      have HMk := hid hm
                      have hszm := hm.1.size
                      have hla := letter_at (a := a) (by omega)
                      have hv1 : IntKind.i64.wrap ((a : Int) + 1) = (a : Int) + 1 := by rw [IntKind.wrap_i64]; omega
                      have hv2 : (0 : Int) ≤ (a : Int) + 1 := by omega
                      have hv3 : (a : Int) + 1 ≤ 16 := by omega
                      have hv4 : (0 : Int) ≤ (a : Int) := by omega
                      have hv5 : (a : Int) ≤ (a : Int) + 1 := by omega
                      have hv6 : ((a : Int) + 1).toNat = a + 1 := by omega
                      have hcat : ∀ X : World, (Op.stringOp .add (toStr x.word) (letW a)).run Try.prog X = .ok (.string (toStr (x.word ++ [a]))) X := fun X => by
                        have h : ¬ (((toStr x.word).size + (letW a).size : Nat) : Int) > IntKind.i64.max := by
                          have h9 := HW.out k x HX.out
                          rw [toStr_size, letW_size]; show ¬ ((x.word.length + 1 : Nat) : Int) > 9223372036854775807; omega
                        unfold Op.stringOp
                        simp only [if_neg h, toStr_snoc]
                        rfl
                      generalize hts : toStr (x.word ++ [a]) = ts at *
                      have HTs := hid hts
                      have hq2 : Wm.drew.cell? ⟨ga, k * 2 + 1, none⟩ = some (.string (toStr x.word)) := hq1
                      clear hts hWm hm r1 r2
                      generalize letW a = la at *
                      generalize toStr x.word = tw at *
                      generalize expandK (nxN ws) n Qs x a = Qa at *
                      go_region_law (refine step_push (by rfl) _ _ 89 (by rfl) wp.heap.size 88 (.agg #[.int .i64 0, .string ⟨#[]⟩]) 2 24 Try.underlying89 Try.infoReached2 rfl (by decide) _ Qa.length (rcells Qa) (by rfl) (own_below HMk.out.2.1 (below_now ⟨rfl, rfl, rfl⟩ (.inr ⟨_, rfl⟩))) Wm.heap.size #[.int .i64 (T : Int), .string ts] rfl (by simp [Value.oneCell']) (by rfl) (heap_alloc_new _ _) (by unfold maxLen; omega) (by omega) (by simp; omega) ?_; intro g3 gc3 w3 hown3 hg3 hb3)
                      all_goals
                        have HQ3 := hid (HQj.out.push (ts := T) (l := x.word ++ [a]) (by rw [HWm.out]; exact below_now ⟨rfl, rfl, rfl⟩ (.inr ⟨_, rfl⟩)) hg3 (by rw [HTs.out]; exact hown3))
                        clear hown3 hg3 hb3 hq1 hq2 hcat hla hv1 hv2 hv3 hv4 hv5 hv6
                        go_wp2
                        go_roundw
                        case rel => exact ⟨a + 1, by omega, by go_num, by rw [HEx.out]; simpa using HQ3.out, by rw [HEx.out]; exact HGx.out⟩
                        case measure => simp [intOf]; omega
                    · have HEx := hid (show expandK (nxN ws) n Qs x (a + 1) = expandK (nxN ws) n Qs x a by rw [expandK, HT.out, if_pos hsn])
                      rw [hsn] at r1
                      clear hsn
                      go_wp2
                      go_roundw
                      case rel => exact ⟨a + 1, by omega, by go_num, by rw [HEx.out]; exact HQj.out, by rw [HEx.out]; exact HGa.out⟩
                      case measure => simp [intOf]; omega
              · have e : a = Q := by omega
                subst e
                go_wp2
                go_roundw
                case rel => exact ⟨k + 1, by go_num, _, by omega, by omega, HQa.out, HGa.out, hid (wq_expand HW.out HX.out _), by rw [show N + 1 - (k + 1) = N - k by omega]; exact HStep⟩
                case measure => simp [intOf]; omega
        · have hr := hid (show syncN (nxN ws) n Q = none by rw [HB.out, bfs_end (by omega)])
          clear hQ
          go_wp2
          go_ret3
          exact ⟨HBp.out.trans (HQ.out.bel.mono HBp.out.size), .inr ⟨HD.out, by rw [HRes.out, hr.out]; rfl⟩⟩
  · have hE2 : (rErr q ws [] != 0) = true := by simp [hE]
    have HD := hid (show sErr q ws = rErr q ws [] by rw [sErr, if_pos hE])
    go_wp2
    go_ret3
    exact ⟨HBp.out, .inl ⟨by rw [HD.out]; exact hE, by rw [HD.out]; rfl⟩⟩
end Go.Proofs.Ytalklhjmnoodeaa
