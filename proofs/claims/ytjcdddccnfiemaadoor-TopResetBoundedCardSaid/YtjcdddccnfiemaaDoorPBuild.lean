/-
  parser.build: the parser of a code: its states in order, where each letter leads, which word ends.
  The code is valid.
-/
import Derived.Test.YtjcdddccnfiemaaDoorPBuildA
import Derived.Test.YtjcdddccnfiemaaDoorPBuildL
import Derived.Test.YtjcdddccnfiemaaDoorSortWs
import Derived.Test.YtjcdddccnfiemaaDoorIndexW
import Derived.Deep.RegionHeld3
import Derived.Deep.RegionLaw
namespace Go.Proofs.YtjcdddccnfiemaaDoor
open Go.RowKit Go.Deep
set_option linter.unusedVariables false

set_option maxRecDepth 100000 in
set_option maxHeartbeats 4000000 in
theorem pbuild_any (q : Nat) (v : Value) (ws : List ByteArray) (w : World) (hl : Sl 1 w v ws.length (strs ws)) (hv : Valid45 q ws) :
    Calls Tryd.prog 33 #[.agg #[.int .i64 (q : Int), v]] w fun e w' => ∃ vS vN vE, e = .returned (.agg #[.int .i64 (q : Int), vS, vN, vE]) ∧ PRes w' w.heap.size vS vN vE (sizeW ws) q (stW ws) (nxI ws) (emI ws) ∧ Below w.heap.size w w' := by
  have HL := hid hl
  obtain ⟨ao, cap, rfl, _, hl1, hl2, hl3⟩ := hl
  clear hl3
  have hmk : ∀ w, (Instr.makeMap 92 none).run Tryd.prog w = .ok (.map (some w.heap.size)) (w.alloc (.map #[] 0)) := fun w => rfl
  go_enter Tryd.func33, Tryd.ntmps33
  go_upto_region 1 with fail
  obtain ⟨w0, hw0⟩ : ∃ w0, (w.alloc (.cells #[.int .i64 q, .slice ao ws.length cap] 24)).alloc (.cells #[.int .i64 0, .slice none 0 0, .slice none 0 0, .slice none 0 0] 27) = w0 := ⟨_, rfl⟩
  have hsz : w0.heap.size = w.heap.size + 2 := by rw [← hw0]; simp
  have hb0 : Below w.heap.size w w0 := by rw [← hw0]; exact (bel_alloc _ _).alloc (by simp) _
  have c0 : w0.cell? ⟨w.heap.size, 0, none⟩ = some (.int .i64 q) := by rw [← hw0]; simp
  have c1 : w0.cell? ⟨w.heap.size, 1, none⟩ = some (.slice ao ws.length cap) := by rw [← hw0]; simp
  have hr : w0.rowIs (w.heap.size + 1) 27 4 (pfun 0 (.slice none 0 0) (.slice none 0 0) (.slice none 0 0)) := by
    rw [← hw0, show w.heap.size + 1 = (w.alloc (.cells #[.int .i64 q, .slice ao ws.length cap] 24)).heap.size by simp]
    refine World.rowIs_alloc _ _ _ _ ?_
    intro i hi
    have hi' : i < 4 := hi
    have : i = 0 ∨ i = 1 ∨ i = 2 ∨ i = 3 := by omega
    rcases this with rfl | rfl | rfl | rfl <;> rfl
  rw [hw0]
  have HB0 := hid hb0
  have HC0 := hid (And.intro c0 c1)
  have HR0 := hid hr
  clear hw0 hb0 hr
  go_upto_region 3 with fail
  rw [← hsz]
  have HSZ := hid hsz
  clear hsz
  have hPB := PB.start w0 q
  obtain ⟨w1, hw1⟩ : ∃ w1, ((w0.alloc (.map #[] 0)).alloc (.cells #[.int .i64 q, .slice none 0 0, .slice none 0 0, .slice none 0 0] 27)) = w1 := ⟨_, rfl⟩
  rw [hw1] at hPB ⊢
  clear hw1 c0 c1
  have hwl : ∀ x ∈ ws, x.size ≤ 32 := fun x hx => (hv.words x hx).2.1
  have HWl := hid hwl
  have hn64 := hv.n64
  have hq16 := hv.q16
  have hq2 := hv.q2
  clear hwl
  have c1 := keeps hPB.bel HC0.out.2
  have HPB := hid hPB
  clear hPB
  go_upto_region 4 with fail
  go_loopw [27] (fun i wr => ∃ k : Nat, k ≤ ws.length ∧ i = .int .i64 k ∧ ∃ n uS, n ≤ k * 32 ∧ PB w0 q (dedD (preL (ws.take k))) n (fD (dedD (preL (ws.take k)))) uS (.slice none 0 0) (.slice none 0 0) wr) (fun i _ => ws.length - (intOf i).toNat)
  case atStart => exact ⟨0, Nat.zero_le _, rfl, 0, _, Nat.zero_le _, HPB.out⟩
  case round =>
    obtain ⟨k, hk, rfl, n0, uS0, hn0, hP⟩ := hrel
    by_cases hlt : k < ws.length
    · obtain ⟨x, hx⟩ := some_of_lt hlt
      obtain ⟨b, o, rfl, cx⟩ := (HL.out.below (bel_step HB0.out hP.bel)).cell (strs_get hx)
      have hx32 := HWl.out x (List.mem_of_getElem? hx)
      have HX := hid hx
      have HPk := hid hP
      clear hx hP
      go_upto_region 7 with fail
      clear cx
      go_loopw [33] (fun i wr => ∃ m : Nat, m ≤ x.size ∧ i = .int .i64 m ∧ ∃ n uS, n ≤ k * 32 + m ∧ PB w0 q (dedD (preL (ws.take k) ++ (preW x).take m)) n (fD (dedD (preL (ws.take k) ++ (preW x).take m))) uS (.slice none 0 0) (.slice none 0 0) wr) (fun i _ => x.size - (intOf i).toNat)
      case atStart => exact ⟨0, Nat.zero_le _, rfl, n0, uS0, by omega, by simpa using HPk.out⟩
      case round =>
        obtain ⟨m, hm, rfl, n, uS, hn, hP⟩ := hrel
        have HP := hid hP
        have hhi := hP.hi
        have hlenD : (dedD (preL (ws.take k) ++ (preW x).take m)).length ≤ 3000 := by
          have h1 := dedD_len (preL (ws.take k) ++ (preW x).take m)
          have h2 := preL_len (ws := ws.take k) (m := 32) (fun y hy => HWl.out y (List.mem_of_mem_take hy))
          have h3 := preW_len x
          rw [List.length_append, List.length_take] at h1
          rw [List.length_take] at h2
          omega
        clear hP HPk
        by_cases hlt2 : m < x.size
        · have HSn := hid (preW_snoc hlt2)
          have hex : (x.extract 0 m).size ≤ maxLen := by rw [ByteArray.size_extract]; unfold maxLen; omega
          have hlook := HP.out.map.look (x.extract 0 m) hex
          by_cases hin : 0 ≤ idxW (dedD (preL (ws.take k) ++ (preW x).take m)) (x.extract 0 m)
          · rw [show fD (dedD (preL (ws.take k) ++ (preW x).take m)) (x.extract 0 m) = some 0 by rw [fD, if_pos hin]] at hlook
            unfold lookV at hlook
            have HD := hid (dedD_yes hin)
            clear hin
            go_wp2
            go_roundw
            case rel => exact ⟨m + 1, by omega, by go_num, n, uS, by omega, by rw [HSn.out, ← List.append_assoc, HD.out]; exact HP.out⟩
            case measure => simp [intOf]; omega
          · rw [show fD (dedD (preL (ws.take k) ++ (preW x).take m)) (x.extract 0 m) = none by rw [fD, if_neg hin]] at hlook
            unfold lookV at hlook
            have HD := hid (dedD_no hin)
            clear hin
            obtain ⟨w2, hrun2, hM2, hg2⟩ := HP.out.map.store (by omega) (x.extract 0 m) hex 0 (by decide)
            have hP2 := HP.out.put hg2 (hM2.congr fD_snoc)
            generalize hDg : dedD (preL (ws.take k) ++ (preW x).take m) = D at *
            generalize hsx : x.extract 0 m = sx at *
            have HP2 := hid hP2
            have hhi2 := hP2.hi
            have c5 := hP2.c.2.1
            have c6 : (w2.alloc (.cells #[.string sx] 9)).cell? ⟨w0.heap.size + 1, 1, none⟩ = some uS := keeps (bel_alloc _ _) c5
            have c7 : (w2.alloc (.cells #[.string sx] 9)).drew.cell? ⟨w0.heap.size + 1, 1, none⟩ = some uS := keeps (bel_alloc _ _) c5
            have c8 : w2.drew.cell? ⟨w0.heap.size + 1, 1, none⟩ = some uS := c5
            have hne5 : ¬ w0.heap.size + 1 = w2.heap.size := by omega
            clear hM2 hg2 hP2 HP
            go_upto_region 12 with fail
            clear hlook hrun2
            go_region_law ((refine step_push (by rfl) _ _ 22 (by rfl) (w0.heap.size + 2) 9 (.string ⟨#[]⟩) 1 16 Tryd.underlying22 Tryd.infoString rfl (by decide) uS D.length (strs D) (by rfl) (own_below HP2.out.s (below_now ⟨rfl, rfl, rfl⟩ (.inr ⟨_, rfl⟩))) w2.heap.size #[.string sx] rfl (oneCell_string _) (by rfl) (heap_alloc_new _ _) (by unfold maxLen; omega) (by omega) (by simp; omega) ?_; intro g gc w3 hown3 hg3 hb3; have hp3 := row_grown (w := (w2.alloc (.cells #[.string sx] 9)).drew) (row_below HP2.out.p (below_now ⟨rfl, rfl, rfl⟩ (.inr ⟨_, rfl⟩))) hg3 (row_ne_low HP2.out.s (by omega)); have k1 := hp3.cell (i := 1) (by omega); have kf := hp3.frozen 1))
            all_goals
              have HP3 := hid (show PB w0 q (D ++ [sx]) (n + 1) (fD (D ++ [sx])) (.slice (some ⟨g, 0, none⟩) (D.length + 1) gc) (.slice none 0 0) (.slice none 0 0) (w3.setCell ⟨w0.heap.size + 1, 1, none⟩ (.slice (some ⟨g, 0, none⟩) (D.length + 1) gc)) from
                (HP2.out.keep (below_now ⟨rfl, rfl, rfl⟩ (.inr ⟨_, rfl⟩) : Below w2.heap.size w2 (w2.alloc (.cells #[.string sx] 9)).drew)).push hg3 (by rw [List.length_append, strs_snoc]; exact hown3))
              clear hp3 k1 kf hg3 hb3 hown3 c5 c6 c7 c8
              go_wp2
              go_roundw
              case rel => exact ⟨m + 1, by omega, by go_num, n + 1, _, by omega, by rw [HSn.out, ← List.append_assoc, HD.out]; exact HP3.out⟩
              case measure => simp [intOf]; omega
        · have e : m = x.size := by omega
          subst e
          have HE := hid (preL_snoc HX.out)
          have HE2 := hid (take_all (l := preW x) (k := x.size) (by rw [preW_len]; exact Nat.le_refl _))
          go_wp2
          go_roundw
          case rel => exact ⟨k + 1, by omega, by go_num, n, uS, by omega, by rw [HE.out, ← HE2.out]; exact HP.out⟩
          case measure => simp [intOf]; omega
    · have e : k = ws.length := by omega
      subst e
      rw [take_all (Nat.le_refl _)] at hP
      have HP := hid hP
      clear hP HPB
      have hnd := dedD_nodup (preL ws)
      have hlenS : (dedD (preL ws)).length ≤ 1000000 := by
        have h1 := dedD_len (preL ws)
        have h2 := preL_len (ws := ws) (m := 32) HWl.out
        omega
      have HSort := hid (fun (W : World) h => sortStrs_any (w0.heap.size + 2) uS0 (dedD (preL ws)) W h hlenS hnd)
      have HFK := hid (fun s => fK_zero (l := dedD (preL ws)) (st := stW ws) (fun y => by rw [mem_dedD]; exact mem_sortW.symm) s)
      have c5 := HP.out.c.2.1
      rw [sort_ded, show sortW (preL ws) = stW ws from rfl] at HSort
      clear hnd hlenS
      go_upto_region 16 with (go_at_call 49; refine (HSort.out _ HP.out.s).mono ?_; rintro e w2 ⟨rfl, hos, hgs⟩)
      have hP2 : PB w0 q (stW ws) n0 (fK (stW ws) 0) uS0 (.slice none 0 0) (.slice none 0 0) w2 := by
        have h := HP.out.turn (S' := stW ws) hgs (by
          have h1 : (stW ws).length = (dedD (preL ws)).length := by have := hos.1; rw [strs_len, Nat.mul_one] at this; exact this
          rw [h1]; exact hos)
        exact ⟨h.bel, h.map.congr HFK.out, h.p, h.s⟩
      have HP2 := hid hP2
      clear hos hgs hP2 HSort HFK HP c5
      generalize hst : stW ws = st at *
      have hlen : st.length ≤ 2048 := by
        have h1 := dedD_len (preL ws)
        have h2 := preL_len (ws := ws) (m := 32) HWl.out
        have h3 : st.length ≤ (dedD (preL ws)).length := by
          rw [← hst]
          have h4 : ∀ x ∈ stW ws, x ∈ dedD (preL ws) := fun x hx => mem_dedD.2 (mem_sortW.1 hx)
          exact nodup_sub (asc_nodup (asc_sortW _)) h4
        omega
      have HNd := hid (show st.Nodup by rw [← hst]; exact asc_nodup (asc_sortW _))
      have HSz := hid (show ∀ x ∈ st, x.size ≤ 32 by
        intro x hx
        rw [← hst] at hx
        obtain ⟨y, hy, m, hm, rfl⟩ := mem_stW.1 hx
        have := HWl.out y hy
        rw [ByteArray.size_extract]; omega)
      obtain ⟨aS, cS, rfl⟩ := own_slice HP2.out.s
      have hpos : 0 < st.length := by rw [← hst]; exact stW_pos hv
      obtain ⟨y0, hy0⟩ := some_of_lt hpos
      obtain ⟨bS, oS, rfl, _⟩ := (Sl.of_owns HP2.out.s).cell (strs_get hy0)
      clear hy0
      have c5 := HP2.out.c.2.1
      go_upto_region 17 with fail
      clear c5
      go_loopw [66] (fun i wr => ∃ k : Nat, k ≤ st.length ∧ i = .int .i64 k ∧ PB w0 q st (n0 + k) (fK st k) (.slice (some ⟨bS, oS, none⟩) st.length cS) (.slice none 0 0) (.slice none 0 0) wr) (fun i _ => st.length - (intOf i).toNat)
      case atStart => exact ⟨0, Nat.zero_le _, rfl, HP2.out⟩
      case round =>
        obtain ⟨k, hk, rfl, hP⟩ := hrel
        have HP := hid hP
        clear hP HP2
        by_cases hlt : k < st.length
        · obtain ⟨x, hx⟩ := some_of_lt hlt
          obtain ⟨b2, o2, e2, cx⟩ := (Sl.of_owns HP.out.s).cell (strs_get hx)
          simp only [Option.some.injEq, Addr.mk.injEq, and_true] at e2
          obtain ⟨rfl, rfl⟩ := e2
          have hx32 := HSz.out x (List.mem_of_getElem? hx)
          obtain ⟨w3, hrun3, hM3, hg3⟩ := HP.out.map.store (by omega) x (by unfold maxLen; omega) k (WalkArith.wf_i64 (by omega))
          have HP3 := hid (HP.out.put hg3 (hM3.congr (fK_succ HNd.out hx)))
          clear hx hM3 hg3
          go_wp2
          go_roundw
          case rel => exact ⟨k + 1, by omega, by go_num, HP3.out⟩
          case measure => simp [intOf]; omega
        · have e : k = st.length := by omega
          subst e
          have c5 := HP.out.c.2.1
          go_upto_region 22 with fail
          have HPN := hid (show PN w0 q st (n0 + st.length) (fK st st.length) q (nxI ws) (emI ws) 0 (.slice (some ⟨bS, oS, none⟩) st.length cS) (.slice none 0 0) (.slice none 0 0) id id wr from ⟨HP.out, Rws.start _ _ _ _ _, Rws.start _ _ _ _ _, .inl rfl⟩)
          clear HP c5
          go_loopw [78] (fun i wr => ∃ k : Nat, k ≤ st.length ∧ i = .int .i64 k ∧ ∃ uN uE gN gE, PN w0 q st (n0 + st.length) (fK st st.length) q (nxI ws) (emI ws) k (.slice (some ⟨bS, oS, none⟩) st.length cS) uN uE gN gE wr) (fun i _ => st.length - (intOf i).toNat)
          case atStart => exact ⟨0, Nat.zero_le _, rfl, _, _, _, _, HPN.out⟩
          case round =>
            obtain ⟨k, hk, rfl, uN, uE, gN, gE, hP⟩ := hrel
            have HP := hid hP
            clear hP HPN
            obtain ⟨wrO, hwrO⟩ : ∃ wrO, wr = wrO := ⟨_, rfl⟩
            rw [hwrO] at HP ⊢
            clear hwrO
            by_cases hlt : k < st.length
            · obtain ⟨x, hx⟩ := some_of_lt hlt
              obtain ⟨b2, o2, e2, cx⟩ := (Sl.of_owns HP.out.pb.s).cell (strs_get hx)
              simp only [Option.some.injEq, Addr.mk.injEq, and_true] at e2
              obtain ⟨rfl, rfl⟩ := e2
              have d0 := keeps HP.out.pb.bel HC0.out.1
              have hmk2 := run_make_row' (P := Tryd.prog) 37 3 (.int .i64 0) 8 Tryd.underlying37 Tryd.infoInt rfl .i64 .i64 q (by omega) (by omega)
              have d1 : (wrO.alloc (.cells (madeCells #[.int .i64 0] q) 3)).cell? ⟨w.heap.size, 0, none⟩ = some (.int .i64 q) := keeps (bel_alloc _ _) d0
              have d2 : (wrO.alloc (.cells (madeCells #[.int .i64 0] q) 3)).drew.cell? ⟨w.heap.size, 0, none⟩ = some (.int .i64 q) := keeps (bel_alloc _ _) d0
              have HX := hid hx
              clear hx
              go_upto_region 24 with fail
              clear cx
              go_cut [14, 15] (fun u v w' => ∃ b1 b2, u = .slice (some ⟨b1, 0, none⟩) q q ∧ v = .slice (some ⟨b2, 0, none⟩) q q ∧ TwoRows wrO q b1 b2 w')
              case first =>
                go_region
                all_goals
                  go_wp2_with fail
                  go_meet
                  first
                    | exact ⟨_, _, rfl, rfl, TwoRows.made wrO q⟩
                    | exact ⟨_, _, rfl, rfl, (TwoRows.made wrO q).swap⟩
              case rest =>
                obtain ⟨b1, b2, rfl, rfl, hT⟩ := hcut
                have HT := hid (TwoIn.start hT (nxI ws k) (emI ws k))
                have d0 := keeps hT.bel d0
                have HBc := hid (bel_step HB0.out HP.out.pb.bel)
                have HWx := hid (show ∀ a, nxI ws k a = (if 0 ≤ idxW ws (x ++ letW a) then 0 else idxW st (x ++ letW a)) ∧ emI ws k a = idxW ws (x ++ letW a) from fun a => by
                  have e : (stW ws).getD k default = x := by rw [hst, List.getD_eq_getElem?_getD, HX.out]; rfl
                  constructor
                  · unfold nxI emI; rw [e, hst]
                  · unfold emI; rw [e])
                have hx32 := HSz.out x (List.mem_of_getElem? HX.out)
                clear hT d1 d2 hmk2
                go_upto_region 26 with fail
                clear d0
                go_loopw [90] (fun i wi => ∃ a : Nat, a ≤ q ∧ i = .int .i64 a ∧ TwoIn wrO q b1 b2 (nxI ws k) (emI ws k) a wi) (fun i _ => q - (intOf i).toNat)
                case atStart => exact ⟨0, Nat.zero_le _, rfl, HT.out⟩
                case round =>
                  obtain ⟨a, ha, rfl, hT⟩ := hrel
                  have HTi := hid hT
                  clear hT HT
                  by_cases hlt2 : a < q
                  · have hbi := HTi.out.bel
                    have hbW := bel_step HP.out.pb.bel hbi
                    have d1 := keeps hbW HC0.out.2
                    have HLi := hid (HL.out.below (bel_step HB0.out hbW))
                    have HMi := hid (HP.out.pb.map.below hbi HP.out.pb.map.lt)
                    have HIx := hid (fun s => indexW_any _ ws s _ HLi.out)
                    have hla := letter_at (a := a) (by omega)
                    have hls := letW_size a
                    have q1 := HTi.out.r1.cell (i := a) (by omega)
                    have q2 := HTi.out.r2.cell (i := a) (by omega)
                    have q3 := HTi.out.r1.frozen a
                    have q4 := HTi.out.r2.frozen a
                    have hne1 := HTi.out.ne
                    have hne2 := HTi.out.ne.symm
                    have hw1 : IntKind.i64.wrap ((a : Int) + 1) = (a : Int) + 1 := by rw [IntKind.wrap_i64]; omega
                    obtain ⟨s, hs⟩ : ∃ s, x ++ letW a = s := ⟨_, rfl⟩
                    have hss : s.size = x.size + 1 := by rw [← hs, ByteArray.size_append, hls]
                    have HNx := HWx.out a
                    rw [hs] at HNx
                    have HNxh := hid HNx
                    clear HNx hbi hbW
                    generalize letW a = la at *
                    go_upto_region 30 with (go_at_call 54; refine (HIx.out _).mono ?_; rintro e w4 ⟨rfl, rfl⟩)
                    have HA := hid (HTi.out.at (.int .i64 (-1)) (.int .i64 (idxW ws s)))
                    have HM2 := hid ((HMi.out.same (blk_setCell_other _ ⟨b1, a, none⟩ (.int .i64 (-1)) _ (by have := HTi.out.l1; have := HP.out.pb.map.lt; show w0.heap.size ≠ b1; omega))).same (blk_setCell_other _ ⟨b2, a, none⟩ (.int .i64 (idxW ws s)) _ (by have := HTi.out.l2; have := HP.out.pb.map.lt; show w0.heap.size ≠ b2; omega)))
                    clear q1 q2 q3 q4 d1 HIx HLi HMi HTi
                    generalize (wr.setCell ⟨b1, a, none⟩ (.int .i64 (-1))).setCell ⟨b2, a, none⟩ (.int .i64 (idxW ws s)) = W2 at *
                    have hlook := HM2.out.look s (by unfold maxLen; omega)
                    have q1 := HA.out.r1.cell (i := a) (by omega)
                    have q2 := HA.out.r2.cell (i := a) (by omega)
                    have q3 := HA.out.r1.frozen a
                    have q4 := HA.out.r2.frozen a
                    simp only [if_pos] at q1 q2
                    rw [fK_all] at hlook
                    have hlo1 := (idxW_low ws s).1
                    have hlo2 := (idxW_low st s).1
                    generalize idxW ws s = E at *
                    generalize idxW st s = I at *
                    by_cases hI : I < 0
                    · rw [if_pos hI] at hlook
                      unfold lookV at hlook
                      by_cases hE : 0 ≤ E
                      · have HF := hid (show TwoIn wrO q b1 b2 (nxI ws k) (emI ws k) (a + 1) (W2.setCell ⟨b1, a, none⟩ (.int .i64 0)) from TwoAt.done (by rw [HNxh.out.1, HNxh.out.2, if_pos hE]; exact HA.out.set1 _))
                        go_wp2
                        go_roundw
                        case rel => exact ⟨a + 1, by omega, by go_num, HF.out⟩
                        case measure => simp [intOf]; omega
                      · have HF := hid (show TwoIn wrO q b1 b2 (nxI ws k) (emI ws k) (a + 1) W2 from TwoAt.done (by rw [HNxh.out.1, HNxh.out.2, if_neg hE, show I = -1 by omega]; exact HA.out))
                        go_wp2
                        go_roundw
                        case rel => exact ⟨a + 1, by omega, by go_num, HF.out⟩
                        case measure => simp [intOf]; omega
                    · rw [if_neg hI] at hlook
                      unfold lookV at hlook
                      by_cases hE : 0 ≤ E
                      · have HF := hid (show TwoIn wrO q b1 b2 (nxI ws k) (emI ws k) (a + 1) ((W2.setCell ⟨b1, a, none⟩ (.int .i64 I)).setCell ⟨b1, a, none⟩ (.int .i64 0)) from TwoAt.done (by rw [HNxh.out.1, HNxh.out.2, if_pos hE]; exact (HA.out.set1 _).set1 _))
                        go_wp2
                        go_roundw
                        case rel => exact ⟨a + 1, by omega, by go_num, HF.out⟩
                        case measure => simp [intOf]; omega
                      · have HF := hid (show TwoIn wrO q b1 b2 (nxI ws k) (emI ws k) (a + 1) (W2.setCell ⟨b1, a, none⟩ (.int .i64 I)) from TwoAt.done (by rw [HNxh.out.1, HNxh.out.2, if_neg hE]; exact HA.out.set1 _))
                        go_wp2
                        go_roundw
                        case rel => exact ⟨a + 1, by omega, by go_num, HF.out⟩
                        case measure => simp [intOf]; omega
                  · have ea : a = q := by omega
                    have hR := HTi.out
                    rw [ea] at hR
                    have HPk := hid (HP.out.keep hR.bel)
                    have HR := hid (And.intro hR.all.1 hR.all.2)
                    have hl1 : w0.heap.size + 2 ≤ b1 := by have h1 := hR.l1; have h2 := HP.out.pb.hi; omega
                    have hl2 : w0.heap.size + 2 ≤ b2 := by have h1 := hR.l2; have h2 := HP.out.pb.hi; omega
                    have hhi := HPk.out.pb.hi
                    have c2 := HPk.out.pb.c.2.2.1
                    have c3 := HPk.out.pb.c.2.2.2
                    have HX1 := hid (below_now ⟨rfl, rfl, rfl⟩ (.inr ⟨_, rfl⟩) : Below wr.heap.size wr (wr.alloc (.cells #[.slice (some ⟨b1, 0, none⟩) q q] 37)).drew)
                    have HX2 := hid (below_drewN ((bel_alloc wr (.cells #[.slice (some ⟨b1, 0, none⟩) q q] 37)).alloc (by simp) (.cells #[.slice (some ⟨b2, 0, none⟩) q q] 37)) 1 : Below wr.heap.size wr ((wr.alloc (.cells #[.slice (some ⟨b1, 0, none⟩) q q] 37)).alloc (.cells #[.slice (some ⟨b2, 0, none⟩) q q] 37)).drew)
                    have HX3 := hid (below_drewN ((bel_alloc wr (.cells #[.slice (some ⟨b2, 0, none⟩) q q] 37)).alloc (by simp) (.cells #[.slice (some ⟨b1, 0, none⟩) q q] 37)) 1 : Below wr.heap.size wr ((wr.alloc (.cells #[.slice (some ⟨b2, 0, none⟩) q q] 37)).alloc (.cells #[.slice (some ⟨b1, 0, none⟩) q q] 37)).drew)
                    have HL2 := hid (show ((wr.alloc (.cells #[.slice (some ⟨b1, 0, none⟩) q q] 37)).alloc (.cells #[.slice (some ⟨b2, 0, none⟩) q q] 37)).drew.heap[wr.heap.size]? = some (.cells #[.slice (some ⟨b1, 0, none⟩) q q] 37) from (blk_alloc_lt _ _ _ (by simp)).trans (blk_alloc_new _ _))
                    have HL2y := hid (show ((wr.alloc (.cells #[.slice (some ⟨b1, 0, none⟩) q q] 37)).alloc (.cells #[.slice (some ⟨b2, 0, none⟩) q q] 37)).drew.heap[wr.heap.size + 1]? = some (.cells #[.slice (some ⟨b2, 0, none⟩) q q] 37) from by have h := blk_alloc_new (wr.alloc (.cells #[.slice (some ⟨b1, 0, none⟩) q q] 37)) (.cells #[.slice (some ⟨b2, 0, none⟩) q q] 37); rw [World.size_alloc] at h; exact h)
                    have HL3y := hid (show ((wr.alloc (.cells #[.slice (some ⟨b2, 0, none⟩) q q] 37)).alloc (.cells #[.slice (some ⟨b1, 0, none⟩) q q] 37)).drew.heap[wr.heap.size]? = some (.cells #[.slice (some ⟨b2, 0, none⟩) q q] 37) from (blk_alloc_lt _ _ _ (by simp)).trans (blk_alloc_new _ _))
                    have HL3 := hid (show ((wr.alloc (.cells #[.slice (some ⟨b2, 0, none⟩) q q] 37)).alloc (.cells #[.slice (some ⟨b1, 0, none⟩) q q] 37)).drew.heap[wr.heap.size + 1]? = some (.cells #[.slice (some ⟨b1, 0, none⟩) q q] 37) from by have h := blk_alloc_new (wr.alloc (.cells #[.slice (some ⟨b2, 0, none⟩) q q] 37)) (.cells #[.slice (some ⟨b1, 0, none⟩) q q] 37); rw [World.size_alloc] at h; exact h)
                    have hNlt := fun g (h : uN.ownBlock = some g) => own_lt HPk.out.N.o h
                    have HNlt := hid hNlt
                    clear hNlt hR HTi HP HWx HBc
                    have c2X : (wr.alloc (.cells #[.slice (some ⟨b1, 0, none⟩) q q] 37)).cell? ⟨w0.heap.size + 1, 2, none⟩ = some uN := keeps (bel_alloc _ _) c2
                    have c2Y : (wr.alloc (.cells #[.slice (some ⟨b2, 0, none⟩) q q] 37)).cell? ⟨w0.heap.size + 1, 2, none⟩ = some uN := keeps (bel_alloc _ _) c2
                    have c2XY : ((wr.alloc (.cells #[.slice (some ⟨b1, 0, none⟩) q q] 37)).alloc (.cells #[.slice (some ⟨b2, 0, none⟩) q q] 37)).cell? ⟨w0.heap.size + 1, 2, none⟩ = some uN := keeps (bel_alloc _ _) (keeps (bel_alloc _ _) c2)
                    have c2YX : ((wr.alloc (.cells #[.slice (some ⟨b2, 0, none⟩) q q] 37)).alloc (.cells #[.slice (some ⟨b1, 0, none⟩) q q] 37)).cell? ⟨w0.heap.size + 1, 2, none⟩ = some uN := keeps (bel_alloc _ _) (keeps (bel_alloc _ _) c2)
                    have c3X : (wr.alloc (.cells #[.slice (some ⟨b1, 0, none⟩) q q] 37)).cell? ⟨w0.heap.size + 1, 3, none⟩ = some uE := keeps (bel_alloc _ _) c3
                    have c3Y : (wr.alloc (.cells #[.slice (some ⟨b2, 0, none⟩) q q] 37)).cell? ⟨w0.heap.size + 1, 3, none⟩ = some uE := keeps (bel_alloc _ _) c3
                    have c3XY : ((wr.alloc (.cells #[.slice (some ⟨b1, 0, none⟩) q q] 37)).alloc (.cells #[.slice (some ⟨b2, 0, none⟩) q q] 37)).cell? ⟨w0.heap.size + 1, 3, none⟩ = some uE := keeps (bel_alloc _ _) (keeps (bel_alloc _ _) c3)
                    have c3YX : ((wr.alloc (.cells #[.slice (some ⟨b2, 0, none⟩) q q] 37)).alloc (.cells #[.slice (some ⟨b1, 0, none⟩) q q] 37)).cell? ⟨w0.heap.size + 1, 3, none⟩ = some uE := keeps (bel_alloc _ _) (keeps (bel_alloc _ _) c3)
                    go_upto_region 36 with fail
                    clear HC0 HR0 HSZ HWl HSz HNd hmk
                    go_region_law (first
                      | (refine step_push_at (by rfl) _ _ 25 (by rfl) (w0.heap.size + 2) 37 (.slice none 0 0) 1 24 Tryd.underlying25 Tryd.infoInts rfl (by decide) uN k (slV q gN k) (by rfl) (HPk.out.keep HX1.out).N.o (wr.heap.size) #[.slice (some ⟨b1, 0, none⟩) q q] rfl (oneCell_slice _ _ _) (by rfl) (heap_alloc_new _ _) (by unfold maxLen; omega) (by omega) (by simp; omega) ?_; intro g gc w1 ho1 hg1 hp1; have H1 := PN.one (HPk.out.keep HX1.out) (row_below HR.out.1 HX1.out) (row_below HR.out.2 HX1.out) hl1 hl2 hg1 ho1 (hp1.elim (fun h => .inl h) (fun h => .inr (by rw [h]; rfl))); have hq1 := H1.pb.c.2.2.2; have hq2 := H1.pb.c.2.2.1; have hq3 : (w1.alloc (.cells #[.slice (some ⟨b2, 0, none⟩) q q] 37)).cell? ⟨w0.heap.size + 1, 3, none⟩ = some uE := keeps (bel_alloc _ _) hq1)
                      | (refine step_push_at (by rfl) _ _ 25 (by rfl) (w0.heap.size + 2) 37 (.slice none 0 0) 1 24 Tryd.underlying25 Tryd.infoInts rfl (by decide) uN k (slV q gN k) (by rfl) (HPk.out.keep HX2.out).N.o (wr.heap.size) #[.slice (some ⟨b1, 0, none⟩) q q] rfl (oneCell_slice _ _ _) (by rfl) HL2.out (by unfold maxLen; omega) (by omega) (by simp; omega) ?_; intro g gc w1 ho1 hg1 hp1; have H1 := PN.one (HPk.out.keep HX2.out) (row_below HR.out.1 HX2.out) (row_below HR.out.2 HX2.out) hl1 hl2 hg1 ho1 (hp1.elim (fun h => .inl h) (fun h => .inr (by rw [h]; rfl))); have hq1 := H1.pb.c.2.2.2; have hq2 := H1.pb.c.2.2.1; have hq3 : (w1.alloc (.cells #[.slice (some ⟨b2, 0, none⟩) q q] 37)).cell? ⟨w0.heap.size + 1, 3, none⟩ = some uE := keeps (bel_alloc _ _) hq1; have hYb := (hg1.block (wr.heap.size + 1) (by simp; try omega) (fun h => by have := HNlt.out _ h.symm; omega)).trans HL2y.out)
                      | (refine step_push_at (by rfl) _ _ 25 (by rfl) (w0.heap.size + 2) 37 (.slice none 0 0) 1 24 Tryd.underlying25 Tryd.infoInts rfl (by decide) uN k (slV q gN k) (by rfl) (HPk.out.keep HX3.out).N.o (wr.heap.size + 1) #[.slice (some ⟨b1, 0, none⟩) q q] rfl (oneCell_slice _ _ _) (by rfl) HL3.out (by unfold maxLen; omega) (by omega) (by simp; omega) ?_; intro g gc w1 ho1 hg1 hp1; have H1 := PN.one (HPk.out.keep HX3.out) (row_below HR.out.1 HX3.out) (row_below HR.out.2 HX3.out) hl1 hl2 hg1 ho1 (hp1.elim (fun h => .inl h) (fun h => .inr (by rw [h]; rfl))); have hq1 := H1.pb.c.2.2.2; have hq2 := H1.pb.c.2.2.1; have hq3 : (w1.alloc (.cells #[.slice (some ⟨b2, 0, none⟩) q q] 37)).cell? ⟨w0.heap.size + 1, 3, none⟩ = some uE := keeps (bel_alloc _ _) hq1; have hYb := (hg1.block (wr.heap.size) (by simp; try omega) (fun h => by have := HNlt.out _ h.symm; omega)).trans HL3y.out)
                      | (refine step_push_at (by rfl) _ _ 25 (by rfl) (w0.heap.size + 2) 37 (.slice none 0 0) 1 24 Tryd.underlying25 Tryd.infoInts rfl (by decide) uE k (slV q gE k) (by rfl) (H1.keep (bel_alloc w1 (.cells #[.slice (some ⟨b2, 0, none⟩) q q] 37))).E.o (w1.heap.size) #[.slice (some ⟨b2, 0, none⟩) q q] rfl (oneCell_slice _ _ _) (by rfl) (heap_alloc_new _ _) (by unfold maxLen; omega) (by omega) (by have h9 := H1.pb.hi; first | omega | (simp; omega)) ?_; intro g' gc' w2 ho2 hg2 hp2; have H2 := PN1.two (H1.keep (bel_alloc w1 (.cells #[.slice (some ⟨b2, 0, none⟩) q q] 37))) hg2 ho2 (hp2.elim (fun h => .inl h) (fun h => .inr (by rw [h]; rfl))); have hr2 := row_grown (H1.keep (bel_alloc w1 (.cells #[.slice (some ⟨b2, 0, none⟩) q q] 37))).pb.p hg2 (row_ne_low (H1.keep (bel_alloc w1 (.cells #[.slice (some ⟨b2, 0, none⟩) q q] 37))).E.o (by omega)); have s2 := hr2.cell (i := 2) (by omega); have s3 := hr2.cell (i := 3) (by omega); have s4 := hr2.frozen 2; have s5 := hr2.frozen 3)
                      | (refine step_push_at (by rfl) _ _ 25 (by rfl) (w0.heap.size + 2) 37 (.slice none 0 0) 1 24 Tryd.underlying25 Tryd.infoInts rfl (by decide) uE k (slV q gE k) (by rfl) H1.E.o (wr.heap.size + 1) #[.slice (some ⟨b2, 0, none⟩) q q] rfl (oneCell_slice _ _ _) (by rfl) hYb (by unfold maxLen; omega) (by omega) (by have h9 := H1.pb.hi; first | omega | (simp; omega)) ?_; intro g' gc' w2 ho2 hg2 hp2; have H2 := PN1.two H1 hg2 ho2 (hp2.elim (fun h => .inl h) (fun h => .inr (by rw [h]; rfl))); have hr2 := row_grown H1.pb.p hg2 (row_ne_low H1.E.o (by omega)); have s2 := hr2.cell (i := 2) (by omega); have s3 := hr2.cell (i := 3) (by omega); have s4 := hr2.frozen 2; have s5 := hr2.frozen 3)
                      | (refine step_push_at (by rfl) _ _ 25 (by rfl) (w0.heap.size + 2) 37 (.slice none 0 0) 1 24 Tryd.underlying25 Tryd.infoInts rfl (by decide) uE k (slV q gE k) (by rfl) H1.E.o (wr.heap.size) #[.slice (some ⟨b2, 0, none⟩) q q] rfl (oneCell_slice _ _ _) (by rfl) hYb (by unfold maxLen; omega) (by omega) (by have h9 := H1.pb.hi; first | omega | (simp; omega)) ?_; intro g' gc' w2 ho2 hg2 hp2; have H2 := PN1.two H1 hg2 ho2 (hp2.elim (fun h => .inl h) (fun h => .inr (by rw [h]; rfl))); have hr2 := row_grown H1.pb.p hg2 (row_ne_low H1.E.o (by omega)); have s2 := hr2.cell (i := 2) (by omega); have s3 := hr2.cell (i := 3) (by omega); have s4 := hr2.frozen 2; have s5 := hr2.frozen 3))
                    all_goals
                      clear hr2 s2 s3 s4 s5 ho2 hg2 hp2 hq1 hq2 hq3 H1 ho1 hg1 hp1 c2 c3 c2X c2Y c2XY c2YX c3X c3Y c3XY c3YX
                      have HN2 := hid H2
                      clear H2
                      go_wp2
                      go_roundw
                      case rel => exact ⟨k + 1, by omega, by go_num, _, _, _, _, HN2.out⟩
                      case measure => simp [intOf]; omega
            · have e : k = st.length := by omega
              subst e
              obtain ⟨aN, cN, rfl⟩ := own_slice HP.out.N.o
              obtain ⟨aE, cE, rfl⟩ := own_slice HP.out.E.o
              obtain ⟨p0, p1, p2, p3⟩ := HP.out.pb.c
              have hr := row_below HR0.out HP.out.pb.bel
              have q0 := hr.cell (i := 0) (by omega)
              have q1 := hr.cell (i := 1) (by omega)
              have q2 := hr.cell (i := 2) (by omega)
              have q3 := hr.cell (i := 3) (by omega)
              have f0 := hr.frozen 0
              have f1 := hr.frozen 1
              have f2 := hr.frozen 2
              have f3 := hr.frozen 3
              have hP := HP.out
              have hB := bel_step HB0.out hP.pb.bel
              have hlt : w.heap.size + 1 < w0.heap.size + 2 := by have := HSZ.out; omega
              have hle : w.heap.size ≤ w.heap.size + 1 := by omega
              have hse : sizeW ws = st.length := by rw [sizeW, hst]
              have HF := hid (And.intro hP (And.intro hB (And.intro hlt (And.intro hle hse))))
              clear hP hB hlt hle hse hr HP
              go_wp2
              obtain ⟨hP, hB, hlt, hle, hse⟩ := HF.out
              refine bodyPost_ret (v := .agg #[.int .i64 (q : Int), .slice (some ⟨bS, oS, none⟩) st.length cS, .slice aN st.length cN, .slice aE st.length cE]) ?_ rfl ⟨_, _, _, rfl, ?_, ?_⟩
              · simp [results, Tryd.results33, go_sem, q0, q1, q2, q3]
              · rw [hse, hst]
                exact (((((⟨hP.pb.s, ⟨_, hP.N⟩, _, hP.E⟩ : PRes _ (w0.heap.size + 2) _ _ _ _ _ _ _ _).set hlt _).set hlt _).set hlt _).set hlt _).base (by have := hlt; omega)
              · exact (((hB.setCell (p := ⟨w.heap.size + 1, 0, none⟩) hle _).setCell (p := ⟨w.heap.size + 1, 1, none⟩) hle _).setCell (p := ⟨w.heap.size + 1, 2, none⟩) hle _).setCell (p := ⟨w.heap.size + 1, 3, none⟩) hle _
end Go.Proofs.YtjcdddccnfiemaaDoor
