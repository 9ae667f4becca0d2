/-
  grooveref45.of: the reference's machine of a code, or why there is none.
  No condition but a code's slice in memory.
-/
import Derived.Test.YtalklhjmnoodeaaRefOfA
import Derived.Test.YtalklhjmnoodeaaRefPre
import Derived.Test.YtalklhjmnoodeaaPMach
import Derived.Test.YtalklhjmnoodeaaPAuto
namespace Go.Proofs.Ytalklhjmnoodeaa
open Go.RowKit Go.Deep
set_option linter.unusedVariables false
set_option linter.unusedSimpArgs false

/-- What the reference's machine says. -/
def ROf (q : Int) (ws : List ByteArray) (B : Nat) (e : Ending) (w' : World) : Prop :=
  ∃ aN nN cN aE nE cE, e = .returned (.tuple #[.agg #[.slice aN nN cN, .slice aE nE cE], .int .i64 (rErr q ws [])]) ∧ (rErr q ws [] = 0 → Mt w' (.slice aN nN cN) (sizeW ws) q.toNat (nxI ws) ∧ Mt w' (.slice aE nE cE) (sizeW ws) q.toNat (emI ws))

theorem two2 {w : World} {b : Nat} (h : w.rowIs b 69 2 (mfun (.slice none 0 0) (.slice none 0 0))) :
    (w.cell? ⟨b, 0, none⟩ = some (.slice none 0 0) ∧ w.cell? ⟨b, 1, none⟩ = some (.slice none 0 0)) ∧ w.frozen? ⟨b, 0, none⟩ = false ∧ w.frozen? ⟨b, 1, none⟩ = false :=
  ⟨⟨h.cell (by omega), h.cell (by omega)⟩, h.frozen 0, h.frozen 1⟩
theorem set2_belowR {w w' : World} {B b : Nat} (h : Below B w w') (hb : B ≤ b) (x y : Value) : Below B w ((w'.setCell ⟨b, 0, none⟩ x).setCell ⟨b, 1, none⟩ y) :=
  (h.setCell (p := ⟨b, 0, none⟩) hb _).setCell (p := ⟨b, 1, none⟩) hb _

set_option maxRecDepth 100000 in
set_option maxHeartbeats 8000000 in
theorem rof_any (q : Int) (v : Value) (ws : List ByteArray) (w : World) (hl : Sl 1 w v ws.length (strs ws)) :
    Calls Try.prog 42 #[.agg #[.int .i64 q, v]] w fun e w' => ROf q ws w.heap.size e w' ∧ Below w.heap.size w w' := by
  have HL := hid hl
  have HPr := hid (fun X h => rprefix_any q v ws X h)
  obtain ⟨ao, cap, rfl, _, hl1, hl2, hl3⟩ := hl
  clear hl3
  by_cases hE : codeErr q ws = 0
  · cases hF : freeB ws
    · have HErr := hid (rErr_nil_pre hE hF)
      rw [if_pos hE, decide_eq_true hE, hF] at HPr
      clear hE hF
      go_enter Try.func42, Try.ntmps42
      go_upto_region 1 with fail
      obtain ⟨w0, hw0⟩ : ∃ w0, (w.alloc (.cells #[.int .i64 q, .slice ao ws.length cap] 24)).alloc (.cells #[.slice none 0 0, .slice none 0 0] 69) = w0 := ⟨_, rfl⟩
      have hb0 : Below w.heap.size w w0 := by rw [← hw0]; exact (bel_alloc _ _).alloc (by simp) _
      have hsz0 : w0.heap.size = w.heap.size + 2 := by rw [← hw0]; simp
      have c0 : w0.cell? ⟨w.heap.size, 0, none⟩ = some (.int .i64 q) := by rw [← hw0]; simp
      have c1 : w0.cell? ⟨w.heap.size, 1, none⟩ = some (.slice ao ws.length cap) := by rw [← hw0]; simp
      have hr : w0.rowIs (w.heap.size + 1) 69 2 (mfun (.slice none 0 0) (.slice none 0 0)) := by
        rw [← hw0, show w.heap.size + 1 = (w.alloc (.cells #[.int .i64 q, .slice ao ws.length cap] 24)).heap.size by simp]
        refine World.rowIs_alloc _ _ _ _ ?_
        intro i hi
        have hi' : i < 2 := hi
        have : i = 0 ∨ i = 1 := by omega
        rcases this with rfl | rfl <;> rfl
      rw [hw0]
      have HB0 := hid hb0
      have HC0 := hid (And.intro c0 c1)
      have HR0 := hid hr
      clear hw0 hb0 hr

      go_wp2_with (go_at_call 57; refine (HPr.out _ (HL.out.below HB0.out)).mono ?_; rintro e w1 ⟨rfl, hb1⟩; have HB1 := hid (bel_step HB0.out hb1); have hr1 := row_below HR0.out hb1; have c0 := keeps hb1 HC0.out.1; have c1 := keeps hb1 HC0.out.2; obtain ⟨⟨r0, r1⟩, g0, g1⟩ := two2 hr1; have HR1 := hid hr1; clear hr1)
      refine bodyPost_ret (v := .tuple #[.agg #[.slice none 0 0, .slice none 0 0], .int .i64 8]) ?_ rfl ⟨⟨_, _, _, _, _, _, by rw [HErr.out], by rw [HErr.out]; intro h; exact absurd h (by decide)⟩, ?_⟩
      · simp [results, Try.results42, go_sem, r0, r1, g0, g1]
      · exact set2_belowR (HB1.out) (by omega) _ _
    · have hv := codeErr_zero hE
      obtain ⟨q, rfl⟩ : ∃ Q : Nat, q = Q := ⟨q.toNat, by have := hv.q2; omega⟩
      have HV := hid hv
      have hq2 := hv.q2
      have hq16 := hv.q16
      have hn64 := hv.n64
      have HFree := hid (fun (x : ByteArray) (hx : x ∈ ws) => free_no_state hF hx)
      have HStuck := hid (rErr_nil_stuck hE hF)
      have HAll := hid (rErr_nil_all hE hF)
      have HRS := hid (fun X h => rstates_any q (.slice ao ws.length cap) ws X h hv)
      rw [Int.toNat_natCast] at HStuck HAll
      rw [if_pos hE, decide_eq_true hE, hF] at HPr
      clear hE hF hv
      go_enter Try.func42, Try.ntmps42
      go_upto_region 1 with fail
      obtain ⟨w0, hw0⟩ : ∃ w0, (w.alloc (.cells #[.int .i64 q, .slice ao ws.length cap] 24)).alloc (.cells #[.slice none 0 0, .slice none 0 0] 69) = w0 := ⟨_, rfl⟩
      have hb0 : Below w.heap.size w w0 := by rw [← hw0]; exact (bel_alloc _ _).alloc (by simp) _
      have hsz0 : w0.heap.size = w.heap.size + 2 := by rw [← hw0]; simp
      have c0 : w0.cell? ⟨w.heap.size, 0, none⟩ = some (.int .i64 q) := by rw [← hw0]; simp
      have c1 : w0.cell? ⟨w.heap.size, 1, none⟩ = some (.slice ao ws.length cap) := by rw [← hw0]; simp
      have hr : w0.rowIs (w.heap.size + 1) 69 2 (mfun (.slice none 0 0) (.slice none 0 0)) := by
        rw [← hw0, show w.heap.size + 1 = (w.alloc (.cells #[.int .i64 q, .slice ao ws.length cap] 24)).heap.size by simp]
        refine World.rowIs_alloc _ _ _ _ ?_
        intro i hi
        have hi' : i < 2 := hi
        have : i = 0 ∨ i = 1 := by omega
        rcases this with rfl | rfl <;> rfl
      rw [hw0]
      have HB0 := hid hb0
      have HC0 := hid (And.intro c0 c1)
      have HR0 := hid hr
      clear hw0 hb0 hr

      go_upto_region 6 with (go_at_call 57; refine (HPr.out _ (HL.out.below HB0.out)).mono ?_; rintro e w1 ⟨rfl, hb1⟩; have HB1 := hid (bel_step HB0.out hb1); have hr1 := row_below HR0.out hb1; have c0 := keeps hb1 HC0.out.1; have c1 := keeps hb1 HC0.out.2; obtain ⟨⟨r0, r1⟩, g0, g1⟩ := two2 hr1; have HR1 := hid hr1; clear hr1)
      have hsz1 : w.heap.size + 2 ≤ w1.heap.size := by have := hb1.size; omega
      clear hb1 HPr g0 g1 r0 r1
      go_upto_region 7 with (go_at_call 58; refine (HRS.out _ (HL.out.below HB1.out)).mono ?_; rintro e w2 ⟨u, rfl, hs2, hb2⟩)
      have hsz2 : w.heap.size + 2 ≤ w2.heap.size := by have := hb2.size; omega
      have HB2 := hid (bel_step HB1.out hb2)
      have HR2 := hid (row_below HR1.out hb2)
      have c0 := keeps hb2 c0
      have c1 := keeps hb2 c1
      have HC2 := hid (And.intro c0 c1)
      have HS2 := hid hs2
      have HL2 := hid (HL.out.below HB2.out)
      clear HR0 HR1 HB1 HC0 HB0 c0 c1 hb2 hsz1 hsz0 HRS
      generalize hst : stW ws = st at *
      have hlen : st.length ≤ 2048 := by
        have h1 := dedD_len (preL ws)
        have h2 := preL_len (ws := ws) (m := 32) (fun x hx => (HV.out.words x hx).2.1)
        have h3 : st.length ≤ (dedD (preL ws)).length := by
          rw [← hst]
          have h4 : ∀ x ∈ stW ws, x ∈ dedD (preL ws) := fun x hx => mem_dedD.2 (mem_sortW.1 hx)
          exact nodup_sub (asc_nodup (asc_sortW _)) h4
        omega
      have hsw : sizeW ws = st.length := by rw [sizeW, hst]
      have HSz := hid (show ∀ x ∈ st, x.size ≤ 32 by
        intro x hx
        rw [← hst] at hx
        obtain ⟨y, hy, m, hm, rfl⟩ := mem_stW.1 hx
        have := (HV.out.words y hy).2.1
        rw [ByteArray.size_extract]; omega)
      rw [hsw] at hs2 HS2 HStuck HAll
      obtain ⟨aS, cS, rfl, _, hS1, hS2, _⟩ := hs2
      go_upto_region 8 with fail
      have HMN := hid (RN.start w2 q (nxI ws) (emI ws) (fun _ => .slice none 0 0) (fun _ => .slice none 0 0))
      generalize hw3 : (w2.alloc (.cells #[.slice none 0 0, .slice none 0 0] 69)) = w3 at *
      clear hw3
      go_upto_region 9 with fail
      go_loopw [8] (fun i wr => ∃ k : Nat, k ≤ st.length ∧ i = .int .i64 k ∧ (∃ uN uE VN VE, RN w2 q (nxI ws) (emI ws) k uN uE VN VE wr) ∧ Hid (∀ s < k, ∀ a < q, 0 ≤ nxI ws s a)) (fun i _ => st.length - (intOf i).toNat)
      case atStart => exact ⟨0, Nat.zero_le _, rfl, ⟨_, _, _, _, HMN.out⟩, hid (fun s h => by omega)⟩
      case round =>
        obtain ⟨k, hk, rfl, ⟨uN, uE, VN, VE, hM⟩, HK⟩ := hrel
        rename World => wk
        have HM := hid hM
        have hbk := hM.bel
        have c0 := keeps hbk HC2.out.1
        have c1 := keeps hbk HC2.out.2
        have HSk := hid (HS2.out.below hbk)
        have HLk := hid (HL2.out.below hbk)
        have hhik := hM.hi
        clear hM HMN
        by_cases hlt : k < st.length
        · obtain ⟨x, hx⟩ := some_of_lt hlt
          have hx32 := HSz.out x (List.mem_of_getElem? hx)
          have HWx := hid (show ∀ a, nxI ws k a = (if 0 ≤ idxW ws (x ++ letW a) then 0 else idxW st (x ++ letW a)) ∧ emI ws k a = idxW ws (x ++ letW a) from fun a => by
            have e : (stW ws).getD k default = x := by rw [hst, List.getD_eq_getElem?_getD, hx]; rfl
            constructor
            · unfold nxI emI; rw [e, hst]
            · unfold emI; rw [e])
          have HX := hid hx
          have HT0 := hid (TwoO.start wk (nxI ws k) (emI ws k))
          have HC := hid (And.intro c0 c1)
          clear hx
          go_upto_region 13 with fail
          clear c0 c1
          go_loopw [9, 10, 11] (fun vn ve i wr => ∃ a : Nat, a ≤ q ∧ i = .int .i64 a ∧ TwoO wk a (nxI ws k) (emI ws k) vn ve wr ∧ Hid (∀ b < a, 0 ≤ nxI ws k b)) (fun _ _ i _ => q - (intOf i).toNat)
          case atStart => exact ⟨0, Nat.zero_le _, rfl, HT0.out, hid (fun s h => by omega)⟩
          case round =>
            obtain ⟨a, ha, rfl, hT, HKa⟩ := hrel
            have HT := hid hT
            have hbi := hT.bel
            have c0 := keeps hbi HC.out.1
            have c1 := keeps hbi HC.out.2
            have hszi := hbi.size
            obtain ⟨an, cn, rfl⟩ := own_slice hT.n
            obtain ⟨ae, ce, rfl⟩ := own_slice hT.e
            obtain ⟨bx, ox, rfl, cx⟩ := (HSk.out.below hbi).cell (strs_get HX.out)
            have HSi := hid (HSk.out.below hbi)
            have HLi := hid (HLk.out.below hbi)
            clear hT HT0 hbi
            by_cases hlt2 : a < q
            · have hla := letter_at (a := a) (by omega)
              have hls := letW_size a
              have hw1 : IntKind.i64.wrap ((a : Int) + 1) = (a : Int) + 1 := by rw [IntKind.wrap_i64]; omega
              obtain ⟨s, hs⟩ : ∃ s, x ++ letW a = s := ⟨_, rfl⟩
              have hss : s.size = x.size + 1 := by rw [← hs, ByteArray.size_append, hls]
              have hNx := HWx.out a
              rw [hs] at hNx
              obtain ⟨hn1, hn2⟩ := hNx
              have HIx := hid (fun X h => rindex_any (.slice ao ws.length cap) ws s X h)
              have HIs := hid (fun X h => rindex_any (.slice (some ⟨bx, ox, none⟩) st.length cS) st s X h)
              have hlo1 := (idxW_low ws s).1
              have hlo2 := (idxW_low st s).1
              have HFr := hid (show 0 ≤ idxW ws s → idxW st s < 0 from fun h => HFree.out s ((idxW_mem ws s).1 h))
              generalize letW a = la at *
              go_upto_region 15 with fail
              go_quiet (fail)
              have HTq := hid (show TwoO wk a (nxI ws k) (emI ws k) (.slice an a cn) (.slice ae a ce) (wr.drewN nq) from ⟨below_drewN HT.out.bel nq, own_below HT.out.n (below_drewN (Below.refl _ _) nq), own_below HT.out.e (below_drewN (Below.refl _ _) nq), HT.out.ne⟩)
              have HLq := hid (HLi.out.below (below_drewN (Below.refl _ _) nq : Below wr.heap.size wr (wr.drewN nq)))
              have HSq := hid (HSi.out.below (below_drewN (Below.refl _ _) nq : Below wr.heap.size wr (wr.drewN nq)))
              have c1 : (wr.drewN nq).cell? ⟨w.heap.size, 1, none⟩ = some (.slice ao ws.length cap) := c1
              clear c0 cx HLi HSi hla hw1 HT
              generalize wr.drewN nq = wq at *
              have hTq := HTq.out
              have hszq := hTq.bel.size
              generalize idxW ws s = E at *
              generalize idxW st s = I at *
              by_cases hE : 0 ≤ E
              · have hI := HFr.out hE
                have hmax : max I 0 = 0 := by omega
                rw [if_pos hE] at hn1
                have HKn := hid (show ∀ b < a + 1, 0 ≤ nxI ws k b from fun b hb => by
                  by_cases e : b = a
                  · subst e; rw [hn1]; exact Int.le_refl _
                  · exact HKa.out b (by omega))
                have hN := hTq.n
                have HRN := hid (show rowV (a + 1) (nxI ws k) = rowV a (nxI ws k) ++ [.int .i64 0] by rw [rowV_snoc, hn1])
                have HRE := hid (show rowV (a + 1) (emI ws k) = rowV a (emI ws k) ++ [.int .i64 E] by rw [rowV_snoc, hn2])
                clear hTq hn1 hn2
                go_upto_region 17 with (first
                  | (go_at_call 59; first
                      | (refine (HIx.out _ HLq.out).mono ?_; clear HIx; rintro e w4 ⟨rfl, rfl⟩)
                      | (refine (HIs.out _ HSq.out).mono ?_; rintro e w4 ⟨rfl, rfl⟩)))
                go_upto_region 19 with fail
                go_wp2_with (first
                  | (have _g := hN; clear _g; at_builtin; refine wpList_push_at _ rfl _ _ 41 rfl wk.heap.size 3 (.int .i64 0) 1 8 Try.underlying41 Try.infoInt rfl (by decide) _ a _ rfl hN #[.int .i64 0] rfl (oneCell_int _ _) rfl (by unfold maxLen; omega) (by omega) hszq ?_; intro g1 gc1 w5 ho5 hg5 hl5 hb5; have hH := TwoO.one HTq.out (by rw [HRN.out]; exact ho5) hg5 hl5 hb5; have hsz5 := hH.bel.size; have hEE := hH.e; clear hN)
                  | (at_builtin; refine wpList_push_at _ rfl _ _ 41 rfl wk.heap.size 3 (.int .i64 0) 1 8 Try.underlying41 Try.infoInt rfl (by decide) _ a _ rfl hEE #[.int .i64 E] rfl (oneCell_int _ _) rfl (by unfold maxLen; omega) (by omega) hsz5 ?_; intro g2 gc2 w6 ho6 hg6 hl6 hb6; have HG := hid (TwoH.two hH (by rw [HRE.out]; exact ho6) hg6 hl6 hb6)))
                go_roundw
                case rel => exact ⟨a + 1, by omega, by go_num, HG.out, HKn⟩
                case measure => simp [intOf]; omega
              · rw [if_neg hE] at hn1
                by_cases hI : I < 0
                · have HSt := hid (HStuck.out (stuckM_iff.2 ⟨k, hlt, a, hlt2, by rw [hn1]; omega⟩))
                  have r2 := row_below HR2.out (bel_step HM.out.bel (HTq.out.bel))
                  obtain ⟨⟨r0, r1⟩, g0, g1⟩ := two2 r2
                  have HBq := hid (bel_step HB2.out (bel_step HM.out.bel HTq.out.bel))
                  clear hTq hn1 hn2 r2
                  go_wp2_with (go_at_call 59; first
                      | (refine (HIx.out _ HLq.out).mono ?_; clear HIx; rintro e w4 ⟨rfl, rfl⟩)
                      | (refine (HIs.out _ HSq.out).mono ?_; rintro e w4 ⟨rfl, rfl⟩))
                  refine bodyPost_ret (v := .tuple #[.agg #[.slice none 0 0, .slice none 0 0], .int .i64 8]) ?_ rfl ⟨⟨_, _, _, _, _, _, by rw [HSt.out], by rw [HSt.out]; intro h; exact absurd h (by decide)⟩, ?_⟩
                  · simp [results, Try.results42, go_sem, r0, r1, g0, g1]
                  · exact set2_belowR (HBq.out) (by omega) _ _
                · have hmax : max I 0 = I := by omega
                  have HKn := hid (show ∀ b < a + 1, 0 ≤ nxI ws k b from fun b hb => by
                    by_cases e : b = a
                    · subst e; rw [hn1]; omega
                    · exact HKa.out b (by omega))
                  have hN := hTq.n
                  have HRN := hid (show rowV (a + 1) (nxI ws k) = rowV a (nxI ws k) ++ [.int .i64 I] by rw [rowV_snoc, hn1])
                  have HRE := hid (show rowV (a + 1) (emI ws k) = rowV a (emI ws k) ++ [.int .i64 E] by rw [rowV_snoc, hn2])
                  clear hTq hn1 hn2
                  go_upto_region 17 with (first
                    | (go_at_call 59; first
                        | (refine (HIx.out _ HLq.out).mono ?_; clear HIx; rintro e w4 ⟨rfl, rfl⟩)
                        | (refine (HIs.out _ HSq.out).mono ?_; rintro e w4 ⟨rfl, rfl⟩)))
                  go_upto_region 19 with fail
                  go_wp2_with (first
                    | (have _g := hN; clear _g; at_builtin; refine wpList_push_at _ rfl _ _ 41 rfl wk.heap.size 3 (.int .i64 0) 1 8 Try.underlying41 Try.infoInt rfl (by decide) _ a _ rfl hN #[.int .i64 I] rfl (oneCell_int _ _) rfl (by unfold maxLen; omega) (by omega) hszq ?_; intro g1 gc1 w5 ho5 hg5 hl5 hb5; have hH := TwoO.one HTq.out (by rw [HRN.out]; exact ho5) hg5 hl5 hb5; have hsz5 := hH.bel.size; have hEE := hH.e; clear hN)
                    | (at_builtin; refine wpList_push_at _ rfl _ _ 41 rfl wk.heap.size 3 (.int .i64 0) 1 8 Try.underlying41 Try.infoInt rfl (by decide) _ a _ rfl hEE #[.int .i64 E] rfl (oneCell_int _ _) rfl (by unfold maxLen; omega) (by omega) hsz5 ?_; intro g2 gc2 w6 ho6 hg6 hl6 hb6; have HG := hid (TwoH.two hH (by rw [HRE.out]; exact ho6) hg6 hl6 hb6)))
                  go_roundw
                  case rel => exact ⟨a + 1, by omega, by go_num, HG.out, HKn⟩
                  case measure => simp [intOf]; omega
            · obtain rfl : q = a := by omega
              have HMi := hid (HM.out.keep HT.out.bel)
              have r1 := own_base HT.out.n (show w2.heap.size + 1 ≤ wk.heap.size from hhik)
              have r2 := own_base HT.out.e (show w2.heap.size + 1 ≤ wk.heap.size from hhik)
              have HR := hid (And.intro r1 r2)
              have HK2 := hid (show ∀ s < k + 1, ∀ a < q, 0 ≤ nxI ws s a from fun s hs b hb => by
                by_cases e : s = k
                · subst e; exact HKa.out b hb
                · exact HK.out s (by omega) b hb)
              have hhi := HMi.out.hi
              have c2 := HMi.out.c.1
              have c3 := HMi.out.c.2
              have HX1 := hid (below_now ⟨rfl, rfl, rfl⟩ (.inr ⟨_, rfl⟩) : Below wr.heap.size wr (wr.alloc (.cells #[.slice an q cn] 41)).drew)
              have HX2 := hid (below_drewN ((bel_alloc wr (.cells #[.slice an q cn] 41)).alloc (by simp) (.cells #[.slice ae q ce] 41)) 1 : Below wr.heap.size wr ((wr.alloc (.cells #[.slice an q cn] 41)).alloc (.cells #[.slice ae q ce] 41)).drew)
              have HX3 := hid (below_drewN ((bel_alloc wr (.cells #[.slice ae q ce] 41)).alloc (by simp) (.cells #[.slice an q cn] 41)) 1 : Below wr.heap.size wr ((wr.alloc (.cells #[.slice ae q ce] 41)).alloc (.cells #[.slice an q cn] 41)).drew)
              have HL2 := hid (show ((wr.alloc (.cells #[.slice an q cn] 41)).alloc (.cells #[.slice ae q ce] 41)).drew.heap[wr.heap.size]? = some (.cells #[.slice an q cn] 41) from (blk_alloc_lt _ _ _ (by simp)).trans (blk_alloc_new _ _))
              have HL2y := hid (show ((wr.alloc (.cells #[.slice an q cn] 41)).alloc (.cells #[.slice ae q ce] 41)).drew.heap[wr.heap.size + 1]? = some (.cells #[.slice ae q ce] 41) from by have h := blk_alloc_new (wr.alloc (.cells #[.slice an q cn] 41)) (.cells #[.slice ae q ce] 41); rw [World.size_alloc] at h; exact h)
              have HL3y := hid (show ((wr.alloc (.cells #[.slice ae q ce] 41)).alloc (.cells #[.slice an q cn] 41)).drew.heap[wr.heap.size]? = some (.cells #[.slice ae q ce] 41) from (blk_alloc_lt _ _ _ (by simp)).trans (blk_alloc_new _ _))
              have HL3 := hid (show ((wr.alloc (.cells #[.slice ae q ce] 41)).alloc (.cells #[.slice an q cn] 41)).drew.heap[wr.heap.size + 1]? = some (.cells #[.slice an q cn] 41) from by have h := blk_alloc_new (wr.alloc (.cells #[.slice ae q ce] 41)) (.cells #[.slice an q cn] 41); rw [World.size_alloc] at h; exact h)
              have hNlt := fun g (h : uN.ownBlock = some g) => own_lt HMi.out.N.o h
              have HNlt := hid hNlt
              clear hNlt r1 r2 HKa HK HSi HLi cx HC HWx
              have c2X : (wr.alloc (.cells #[.slice an q cn] 41)).cell? ⟨w2.heap.size, 0, none⟩ = some uN := keeps (bel_alloc _ _) c2
              have c2Y : (wr.alloc (.cells #[.slice ae q ce] 41)).cell? ⟨w2.heap.size, 0, none⟩ = some uN := keeps (bel_alloc _ _) c2
              have c2XY : ((wr.alloc (.cells #[.slice an q cn] 41)).alloc (.cells #[.slice ae q ce] 41)).cell? ⟨w2.heap.size, 0, none⟩ = some uN := keeps (bel_alloc _ _) (keeps (bel_alloc _ _) c2)
              have c2YX : ((wr.alloc (.cells #[.slice ae q ce] 41)).alloc (.cells #[.slice an q cn] 41)).cell? ⟨w2.heap.size, 0, none⟩ = some uN := keeps (bel_alloc _ _) (keeps (bel_alloc _ _) c2)
              have c3X : (wr.alloc (.cells #[.slice an q cn] 41)).cell? ⟨w2.heap.size, 1, none⟩ = some uE := keeps (bel_alloc _ _) c3
              have c3Y : (wr.alloc (.cells #[.slice ae q ce] 41)).cell? ⟨w2.heap.size, 1, none⟩ = some uE := keeps (bel_alloc _ _) c3
              have c3XY : ((wr.alloc (.cells #[.slice an q cn] 41)).alloc (.cells #[.slice ae q ce] 41)).cell? ⟨w2.heap.size, 1, none⟩ = some uE := keeps (bel_alloc _ _) (keeps (bel_alloc _ _) c3)
              have c3YX : ((wr.alloc (.cells #[.slice ae q ce] 41)).alloc (.cells #[.slice an q cn] 41)).cell? ⟨w2.heap.size, 1, none⟩ = some uE := keeps (bel_alloc _ _) (keeps (bel_alloc _ _) c3)
              go_upto_region 20 with fail
              clear c0 c1
              go_region_law (first
                | (refine step_push_at (by rfl) _ _ 34 (by rfl) (w2.heap.size + 1) 41 (.slice none 0 0) 1 24 Try.underlying34 Try.infoInts rfl (by decide) uN k (mapV VN k) (by rfl) (HMi.out.keep HX1.out).N.o (wr.heap.size) #[.slice an q cn] rfl (oneCell_slice _ _ _) (by rfl) (heap_alloc_new _ _) (by unfold maxLen; omega) (by omega) (by simp; omega) ?_; intro g gc w1 ho1 hg1 hp1; have H1 := RN.one (HMi.out.keep HX1.out) (own_below HR.out.1 HX1.out) (own_below HR.out.2 HX1.out) hg1 ho1 (hp1.elim (fun h => .inl h) (fun h => .inr (by rw [h]; rfl))); have hq1 := H1.c.2; have hq2 := H1.c.1; have hq3 : (w1.alloc (.cells #[.slice ae q ce] 41)).cell? ⟨w2.heap.size, 1, none⟩ = some uE := keeps (bel_alloc _ _) hq1)
                | (refine step_push_at (by rfl) _ _ 34 (by rfl) (w2.heap.size + 1) 41 (.slice none 0 0) 1 24 Try.underlying34 Try.infoInts rfl (by decide) uN k (mapV VN k) (by rfl) (HMi.out.keep HX2.out).N.o (wr.heap.size) #[.slice an q cn] rfl (oneCell_slice _ _ _) (by rfl) HL2.out (by unfold maxLen; omega) (by omega) (by simp; omega) ?_; intro g gc w1 ho1 hg1 hp1; have H1 := RN.one (HMi.out.keep HX2.out) (own_below HR.out.1 HX2.out) (own_below HR.out.2 HX2.out) hg1 ho1 (hp1.elim (fun h => .inl h) (fun h => .inr (by rw [h]; rfl))); have hq1 := H1.c.2; have hq2 := H1.c.1; have hq3 : (w1.alloc (.cells #[.slice ae q ce] 41)).cell? ⟨w2.heap.size, 1, none⟩ = some uE := keeps (bel_alloc _ _) hq1; have hYb := (hg1.block (wr.heap.size + 1) (by simp; try omega) (fun h => by have := HNlt.out _ h.symm; omega)).trans HL2y.out)
                | (refine step_push_at (by rfl) _ _ 34 (by rfl) (w2.heap.size + 1) 41 (.slice none 0 0) 1 24 Try.underlying34 Try.infoInts rfl (by decide) uN k (mapV VN k) (by rfl) (HMi.out.keep HX3.out).N.o (wr.heap.size + 1) #[.slice an q cn] rfl (oneCell_slice _ _ _) (by rfl) HL3.out (by unfold maxLen; omega) (by omega) (by simp; omega) ?_; intro g gc w1 ho1 hg1 hp1; have H1 := RN.one (HMi.out.keep HX3.out) (own_below HR.out.1 HX3.out) (own_below HR.out.2 HX3.out) hg1 ho1 (hp1.elim (fun h => .inl h) (fun h => .inr (by rw [h]; rfl))); have hq1 := H1.c.2; have hq2 := H1.c.1; have hq3 : (w1.alloc (.cells #[.slice ae q ce] 41)).cell? ⟨w2.heap.size, 1, none⟩ = some uE := keeps (bel_alloc _ _) hq1; have hYb := (hg1.block (wr.heap.size) (by simp; try omega) (fun h => by have := HNlt.out _ h.symm; omega)).trans HL3y.out)
                | (refine step_push_at (by rfl) _ _ 34 (by rfl) (w2.heap.size + 1) 41 (.slice none 0 0) 1 24 Try.underlying34 Try.infoInts rfl (by decide) uE k (mapV VE k) (by rfl) (H1.keep (bel_alloc w1 (.cells #[.slice ae q ce] 41))).E.o (w1.heap.size) #[.slice ae q ce] rfl (oneCell_slice _ _ _) (by rfl) (heap_alloc_new _ _) (by unfold maxLen; omega) (by omega) (by have h9 := H1.hi; first | omega | (simp; omega)) ?_; intro g' gc' w3 ho2 hg2 hp2; have H2 := RN1.two (H1.keep (bel_alloc w1 (.cells #[.slice ae q ce] 41))) hg2 ho2 (hp2.elim (fun h => .inl h) (fun h => .inr (by rw [h]; rfl))); have hr2 := row_grown (H1.keep (bel_alloc w1 (.cells #[.slice ae q ce] 41))).p hg2 (row_ne_low (H1.keep (bel_alloc w1 (.cells #[.slice ae q ce] 41))).E.o (by omega)); have s2 := hr2.cell (i := 0) (by omega); have s3 := hr2.cell (i := 1) (by omega); have s4 := hr2.frozen 0; have s5 := hr2.frozen 1)
                | (refine step_push_at (by rfl) _ _ 34 (by rfl) (w2.heap.size + 1) 41 (.slice none 0 0) 1 24 Try.underlying34 Try.infoInts rfl (by decide) uE k (mapV VE k) (by rfl) H1.E.o (wr.heap.size + 1) #[.slice ae q ce] rfl (oneCell_slice _ _ _) (by rfl) hYb (by unfold maxLen; omega) (by omega) (by have h9 := H1.hi; first | omega | (simp; omega)) ?_; intro g' gc' w3 ho2 hg2 hp2; have H2 := RN1.two H1 hg2 ho2 (hp2.elim (fun h => .inl h) (fun h => .inr (by rw [h]; rfl))); have hr2 := row_grown H1.p hg2 (row_ne_low H1.E.o (by omega)); have s2 := hr2.cell (i := 0) (by omega); have s3 := hr2.cell (i := 1) (by omega); have s4 := hr2.frozen 0; have s5 := hr2.frozen 1)
                | (refine step_push_at (by rfl) _ _ 34 (by rfl) (w2.heap.size + 1) 41 (.slice none 0 0) 1 24 Try.underlying34 Try.infoInts rfl (by decide) uE k (mapV VE k) (by rfl) H1.E.o (wr.heap.size) #[.slice ae q ce] rfl (oneCell_slice _ _ _) (by rfl) hYb (by unfold maxLen; omega) (by omega) (by have h9 := H1.hi; first | omega | (simp; omega)) ?_; intro g' gc' w3 ho2 hg2 hp2; have H2 := RN1.two H1 hg2 ho2 (hp2.elim (fun h => .inl h) (fun h => .inr (by rw [h]; rfl))); have hr2 := row_grown H1.p hg2 (row_ne_low H1.E.o (by omega)); have s2 := hr2.cell (i := 0) (by omega); have s3 := hr2.cell (i := 1) (by omega); have s4 := hr2.frozen 0; have s5 := hr2.frozen 1))
              all_goals
                clear hr2 s2 s3 s4 s5 ho2 hg2 hp2 hq1 hq2 hq3 H1 ho1 hg1 hp1 c2 c3 c2X c2Y c2XY c2YX c3X c3Y c3XY c3YX
                have HN2 := hid H2
                clear H2
                go_wp2
                go_roundw
                case rel => exact ⟨k + 1, by omega, by go_num, ⟨_, _, _, _, HN2.out⟩, HK2⟩
                case measure => simp [intOf]; omega
        · obtain rfl : k = st.length := by omega
          have HAE := hid (HAll.out (by
            cases h : stuckM st.length q (nxI ws)
            · rfl
            · obtain ⟨s, hs, a, ha, e⟩ := stuckM_iff.1 h
              have := HK.out s hs a ha
              omega))
          obtain ⟨aN, cN, rfl⟩ := own_slice HM.out.N.o
          obtain ⟨aE, cE, rfl⟩ := own_slice HM.out.E.o
          have hrk := row_below HR2.out HM.out.bel
          obtain ⟨⟨r0, r1⟩, g0, g1⟩ := two2 hrk
          have m0 := HM.out.c.1
          have m1 := HM.out.c.2
          have HBk := hid (bel_step HB2.out HM.out.bel)
          have HLt := hid (show w.heap.size + 1 < w2.heap.size from by omega)
          clear hrk c0 c1 HStuck HAll
          by_cases h64 : 64 < st.length
          · have HE4 := hid (HAE.out.trans (if_pos h64))
            clear m0 m1
            go_wp2
            refine bodyPost_ret (v := .tuple #[.agg #[.slice none 0 0, .slice none 0 0], .int .i64 4]) ?_ rfl ⟨⟨_, _, _, _, _, _, by rw [HE4.out], by rw [HE4.out]; intro h; exact absurd h (by decide)⟩, ?_⟩
            · simp [results, Try.results42, go_sem, r0, r1, g0, g1]
            · exact set2_belowR (HBk.out) (by omega) _ _
          · have HE0 := hid (HAE.out.trans (if_neg h64))
            go_wp2
            refine bodyPost_ret (v := .tuple #[.agg #[.slice aN st.length cN, .slice aE st.length cE], .int .i64 0]) ?_ rfl ⟨⟨_, _, _, _, _, _, by rw [HE0.out], fun _ => ?_⟩, ?_⟩
            · simp [results, Try.results42, go_sem, r0, r1, g0, g1, m0, m1]
            · rw [hsw]
              exact ⟨((HM.out.N.set (a := ⟨w.heap.size + 1, 0, none⟩) (by have := HLt.out; show w.heap.size + 1 < _; omega) _).set (a := ⟨w.heap.size + 1, 1, none⟩) (by have := HLt.out; show w.heap.size + 1 < _; omega) _).mt, ((HM.out.E.set (a := ⟨w.heap.size + 1, 0, none⟩) (by have := HLt.out; show w.heap.size + 1 < _; omega) _).set (a := ⟨w.heap.size + 1, 1, none⟩) (by have := HLt.out; show w.heap.size + 1 < _; omega) _).mt⟩
            · exact set2_belowR (HBk.out) (by omega) _ _
  · have HErr := hid (rErr_nil_check hE)
    rw [if_neg hE, decide_eq_false hE, Bool.false_and] at HPr
    clear hE
    go_enter Try.func42, Try.ntmps42
    go_upto_region 1 with fail
    obtain ⟨w0, hw0⟩ : ∃ w0, (w.alloc (.cells #[.int .i64 q, .slice ao ws.length cap] 24)).alloc (.cells #[.slice none 0 0, .slice none 0 0] 69) = w0 := ⟨_, rfl⟩
    have hb0 : Below w.heap.size w w0 := by rw [← hw0]; exact (bel_alloc _ _).alloc (by simp) _
    have hsz0 : w0.heap.size = w.heap.size + 2 := by rw [← hw0]; simp
    have c0 : w0.cell? ⟨w.heap.size, 0, none⟩ = some (.int .i64 q) := by rw [← hw0]; simp
    have c1 : w0.cell? ⟨w.heap.size, 1, none⟩ = some (.slice ao ws.length cap) := by rw [← hw0]; simp
    have hr : w0.rowIs (w.heap.size + 1) 69 2 (mfun (.slice none 0 0) (.slice none 0 0)) := by
      rw [← hw0, show w.heap.size + 1 = (w.alloc (.cells #[.int .i64 q, .slice ao ws.length cap] 24)).heap.size by simp]
      refine World.rowIs_alloc _ _ _ _ ?_
      intro i hi
      have hi' : i < 2 := hi
      have : i = 0 ∨ i = 1 := by omega
      rcases this with rfl | rfl <;> rfl
    rw [hw0]
    have HB0 := hid hb0
    have HC0 := hid (And.intro c0 c1)
    have HR0 := hid hr
    clear hw0 hb0 hr

    go_wp2_with (go_at_call 57; refine (HPr.out _ (HL.out.below HB0.out)).mono ?_; rintro e w1 ⟨rfl, hb1⟩; have HB1 := hid (bel_step HB0.out hb1); have hr1 := row_below HR0.out hb1; have c0 := keeps hb1 HC0.out.1; have c1 := keeps hb1 HC0.out.2; obtain ⟨⟨r0, r1⟩, g0, g1⟩ := two2 hr1; have HR1 := hid hr1; clear hr1)
    refine bodyPost_ret (v := .tuple #[.agg #[.slice none 0 0, .slice none 0 0], .int .i64 1]) ?_ rfl ⟨⟨_, _, _, _, _, _, by rw [HErr.out], by rw [HErr.out]; intro h; exact absurd h (by decide)⟩, ?_⟩
    · simp [results, Try.results42, go_sem, r0, r1, g0, g1]
    · exact set2_belowR (HB1.out) (by omega) _ _
end Go.Proofs.Ytalklhjmnoodeaa
