/-
  program.Reduce: the reduced program.
  No condition beyond the code and the outputs lying in slices.
-/
import Derived.Test.YtcdfghogmdhfcaaGreatDoorPrRedE
namespace Go.Proofs.YtcdfghogmdhfcaaGreatDoor
open Go.RowKit Go.Deep
set_option linter.unusedVariables false

theorem box2P {w w0 : World} {n : Int} {vc vo : Value} (h : (w.alloc (.cells #[.int .i64 n, vc, vo] 28)).alloc (.cells #[.int .i64 0, .slice none 0 0, .slice none 0 0] 28) = w0) :
    Below w.heap.size w w0 ∧ w0.heap.size = w.heap.size + 2 ∧ w0.cell? ⟨w.heap.size, 0, none⟩ = some (.int .i64 n) ∧ w0.cell? ⟨w.heap.size, 1, none⟩ = some vc ∧ w0.cell? ⟨w.heap.size, 2, none⟩ = some vo ∧ w0.rowIs (w.heap.size + 1) 28 3 (p3 0 (.slice none 0 0) (.slice none 0 0)) := by
  refine ⟨by rw [← h]; exact (bel_alloc _ _).alloc (by simp) _, by rw [← h]; simp, by rw [← h]; simp, by rw [← h]; simp, by rw [← h]; simp, ?_⟩
  rw [← h, show w.heap.size + 1 = (w.alloc (.cells #[.int .i64 n, vc, vo] 28)).heap.size by simp]
  refine World.rowIs_alloc _ _ _ _ ?_
  intro i hi
  have hi' : i < 3 := hi
  have : i = 0 ∨ i = 1 ∨ i = 2 := by omega
  rcases this with rfl | rfl | rfl <;> rfl
theorem VS.start (w1 : World) (N : Nat) (w2 : World) (hw2 : (w1.alloc (.map #[] 0)).alloc (.cells #[.int .i64 N, .slice none 0 0, .map (some w1.heap.size)] 98) = w2) : w2.heap.size = w1.heap.size + 2 ∧ VS w2 (w1.heap.size + 2) (w1.heap.size + 1) w1.heap.size N [] [] (.slice none 0 0) w2 ∧ Below w1.heap.size w1 w2 := by
  have hs : w2.heap.size = w1.heap.size + 2 := by rw [← hw2]; simp
  refine ⟨hs, ⟨⟨by omega, by omega, by omega, by omega, ⟨.slice none 0 0, ?_, World.ownsRow_nil _ _ _ _⟩, ?_⟩, World.ownsRow_nil _ _ _ _, ⟨rfl, rfl, rfl, Nat.le_refl _, fun _ _ _ _ => rfl⟩⟩, ?_⟩
  · rw [← hw2, show w1.heap.size + 1 = (w1.alloc (.map #[] 0)).heap.size by simp]
    refine World.rowIs_alloc _ _ _ _ ?_
    intro i hi
    have hi' : i < 3 := hi
    have : i = 0 ∨ i = 1 ∨ i = 2 := by omega
    rcases this with rfl | rfl | rfl <;> rfl
  · have h := (KM.made w1).same (w' := w2) (by rw [← hw2]; exact (bel_alloc _ _).block _ (by simp))
    exact h.congr fun s => by simp [kn]
  · rw [← hw2]; exact (bel_alloc _ _).alloc (by simp) _
theorem rest7 : withRest 4 (dropSeq 7 redBody) (dropSeq 11 redBody) = dropSeq 7 redBody := by kernel_rfl
theorem rest11 : withRest 4 (dropSeq 11 redBody) (dropSeq 15 redBody) = dropSeq 11 redBody := by kernel_rfl
theorem BX.cell {B RB MB : Nat} {w w' : World} (h : BX B RB MB w w') {b j : Nat} {v : Value} (hc : w.cell? ⟨b, j, none⟩ = some v) (h0 : b < B) (h1 : b ≠ RB) (h2 : b ≠ MB) : w'.cell? ⟨b, j, none⟩ = some v := (World.cell?_of_block (a := ⟨b, j, none⟩) (h.block b h0 h1 h2)).trans hc

set_option maxRecDepth 100000 in
set_option maxHeartbeats 8000000 in
theorem preduce_any (n : Int) (vc vo : Value) (c : List Ins) (o : List Int) (w : World) (hc : Sl 3 w vc c.length (icells c)) (ho : Sl 1 w vo o.length (ints o)) :
    Calls Tryz.prog 18 #[.agg #[.int .i64 n, vc, vo]] w (RPost n c o w) := by
  have HC := hid hc
  have HO := hid ho
  have HOps := hid operations_any
  have HCk := hid (fun X h1 h2 => pcheck_any n vc vo c o X h1 h2)
  obtain ⟨ac, cc, rfl, _, hc1, hc2, hc3⟩ := hc
  obtain ⟨ao, co, rfl, _, ho1, ho2, ho3⟩ := ho
  clear hc3 ho3
  by_cases he : progErr n c o = 0
  · have hE2 : (progErr n c o != 0) = false := by simp [he]
    obtain ⟨hn0, hn24, hc6, ho6, hce, hoe⟩ := progErr_zero.1 he
    obtain ⟨N, rfl⟩ : ∃ N : Nat, n = (N : Int) := ⟨n.toNat, by omega⟩
    have HPost := hid (show ∀ e w', (∃ vc vo, e = .returned (.tuple #[.agg #[.int .i64 N, vc, vo], .int .i64 0]) ∧ w'.ownsRow w.heap.size 47 3 vc (redC N c o).length (icells (redC N c o)) ∧ w'.ownsRow w.heap.size 3 1 vo (redO N c o).length (ints (redO N c o)) ∧ Below w.heap.size w w') → RPost N c o w e w' from fun e w' h => by
      unfold RPost redI redE redN redP
      rw [if_pos he, if_pos he, if_pos he, if_pos he, Int.toNat_natCast]
      exact h)
    have HInv := hid (fun k => show RInv N (List.replicate N false) (c.take k) from red_inv (by simp) (pcodeErr_at.2 fun i x hx => by
      rw [List.getElem?_take] at hx
      split at hx
      · exact pcodeErr_at.1 hce i x hx
      · cases hx))
    have HF := hid (red_facts hce hoe)
    have HCE := hid (pcodeErr_at.1 hce)
    have HOE := hid hoe
    have hN24 : N ≤ 24 := by omega
    have hmm := @run_makeMap Tryz.prog
    clear he hce hoe hn0 hn24
    generalize hE : progErr (N : Int) c o = E at *
    clear hE
    go_enter Tryz.func18, Tryz.ntmps18
    go_upto_region 1 with fail
    obtain ⟨w0, hw0⟩ : ∃ w0, (w.alloc (.cells #[.int .i64 N, .slice ac c.length cc, .slice ao o.length co] 28)).alloc (.cells #[.int .i64 0, .slice none 0 0, .slice none 0 0] 28) = w0 := ⟨_, rfl⟩
    obtain ⟨hb0, hs0, c0, c1, c2, hr⟩ := box2P hw0
    rw [hw0]
    have HB0 := hid hb0
    clear hw0 hb0
    go_upto_region 3 with (go_at_call 39; refine (HCk.out _ (HC.out.below HB0.out) (HO.out.below HB0.out)).mono ?_; rintro e w1 ⟨rfl, hb1⟩)
    have HB1 := hid (bel_step HB0.out hb1)
    have c0 := keeps hb1 c0
    have c1 := keeps hb1 c1
    have c2 := keeps hb1 c2
    have hr := row_below hr hb1
    have hs1 : w.heap.size + 2 ≤ w1.heap.size := by have := hb1.size; omega
    clear hb1 HB0 HCk hs0
    go_upto_region 4 with fail
    obtain ⟨w2, hw2⟩ : ∃ w2, (w1.alloc (.map #[] 0)).alloc (.cells #[.int .i64 N, .slice none 0 0, .map (some w1.heap.size)] 98) = w2 := ⟨_, rfl⟩
    obtain ⟨hs2, hV, hb2⟩ := VS.start w1 N w2 hw2
    rw [hw2]
    have HV := hid hV
    have HW2 := hid hs2
    have HBel2 := hid hb2
    have HR := hid hr
    have hc0 := keeps hb2 c0
    have c1' := c1
    clear hw2 hV hb2 hr
    have HC0 := hid (And.intro c0 (And.intro c1 c2))
    clear c0 c1 c2
    go_upto_region 6 with fail
    go_loopw [5, 40] (fun vv i wr => ∃ k : Nat, k ≤ N ∧ i = .int .i64 k ∧ VS w2 (w1.heap.size + 2) (w1.heap.size + 1) w1.heap.size N [] (upToI k) vv wr) (fun _ i _ => N - (intOf i).toNat)
    case atStart => exact ⟨0, Nat.zero_le _, rfl, HV.out⟩
    case round =>
      obtain ⟨k, hk, rfl, hV⟩ := hrel
      have HVr := hid hV
      have hown := hV.vals
      have hlb := hV.rs.lb
      clear hV HV
      rename World => wm
      by_cases hlt : k < N
      · rw [upToI_len] at hown
        obtain ⟨av, cv, rfl⟩ := own_slice hown
        have HOwn := hid hown
        clear hown
        go_wp2_with (at_builtin; refine wpList_push wm rfl _ _ 26 rfl (w1.heap.size + 2) 3 (.int .i64 0) 1 8 Tryz.underlying26 Tryz.infoInt rfl (by decide) (.slice av k cv) k (ints (upToI k)) rfl HOwn.out #[.int .i64 k] rfl (oneCell_int _ _) rfl (by unfold maxLen; omega) (by omega) (by omega) ?_; intro gv capv w5 hown5 hg5 hb5)
        go_roundw
        case rel => exact ⟨k + 1, by omega, by go_num, by rw [upToI_succ]; exact HVr.out.push hg5 (by rw [upToI_len]; exact hown5) hb5⟩
        case measure => simp [intOf]; omega
      · have e : N = k := by omega
        subst e
        have HBl := hid (HVr.out.bx.low HBel2.out (by omega) (Nat.le_refl _) (by omega))
        have d1 := keeps HBl.out c1'
        go_upto_region 11 with fail
        have hbl := HBl.out
        go_loopw [5, 51] (fun vv i wr => ∃ k : Nat, k ≤ c.length ∧ i = .int .i64 k ∧ VS w2 (w1.heap.size + 2) (w1.heap.size + 1) w1.heap.size N (redS N (c.take k)).1 (redS N (c.take k)).2 vv wr) (fun _ i _ => c.length - (intOf i).toNat)
        case atStart => exact ⟨0, Nat.zero_le _, rfl, HVr.out⟩
        case round =>
          obtain ⟨k, hk, rfl, hV⟩ := hrel
          clear hbl d1 hown hlb HBl HVr
          have HBl := hid (hV.bx.low HBel2.out (by omega) (Nat.le_refl _) (by omega))
          have HVr := hid hV
          have hown := hV.vals
          have hlb := hV.rs.lb
          have hlen : (redS N (c.take k)).2.length = N + k := by rw [redS_len, List.length_take]; omega
          have HIk := HInv.out k
          clear hV
          rename World => wm
          by_cases hlt : k < c.length
          · obtain ⟨x, hx⟩ := some_of_lt hlt
            have hv := insErr_zero.1 (HCE.out k x hx)
            have HT := hid (red_take (N := N) hx)
            have hmost : (redS N (c.take k)).1.length ≤ k := by have := HIk.most; rw [List.length_take] at this; omega
            have HCI := hid HIk.inv
            have HRg := hid HIk.rng
            clear HIk
            generalize hS : redS N (c.take k) = S at *
            clear hS
            obtain ⟨C, vs⟩ := S
            simp only at HVr hown hlen hmost HCI HRg HT
            rw [hlen] at hown
            obtain ⟨av, cv, rfl⟩ := own_slice hown
            obtain ⟨b, off, rfl, x0, x1, x2⟩ := Sl.ins ((HC.out.below HB1.out).below HBl.out) hx
            clear hx
            obtain ⟨op, a, bb⟩ := x
            go_upto_region 13 with fail
            obtain ⟨wx, hwx⟩ : ∃ wx, wm.alloc (.cells #[.int .i64 op, .int .i64 a, .int .i64 bb] 47) = wx := ⟨_, rfl⟩
            obtain ⟨hbx, y0, y1, y2⟩ := boxI' hwx
            rw [hwx]
            have HVx := hid (HVr.out.keep hbx)
            have hown := own_below hown hbx
            have HOx := hid hown
            have hlx : w1.heap.size + 2 ≤ wx.heap.size := HVx.out.rs.lb
            clear hwx hbx x0 x1 x2 HBl HVr
            generalize wm.heap.size = gx at *
            rcases hv with ⟨h1, h2, h3⟩ | ⟨h1, h2, h3, h4⟩ | ⟨h1, h2, h3, h4, h5⟩
            · simp only at h1 h2 h3
              subst h2 h3
              rcases h1 with rfl | rfl
              · rw [stC1.1, stC1.2] at HT
                go_wp2_with (at_builtin; refine wpList_push wx rfl _ _ 26 rfl (w1.heap.size + 2) 3 (.int .i64 0) 1 8 Tryz.underlying26 Tryz.infoInt rfl (by decide) (.slice av (N + k) cv) (N + k) (ints vs) rfl HOx.out #[.int .i64 (-2)] rfl (oneCell_int _ _) rfl (by unfold maxLen; omega) (by omega) hlx ?_; intro gv capv w5 hown5 hg5 hb5)
                go_roundw
                case rel => exact ⟨k + 1, by omega, by go_num, by rw [HT.out]; exact HVx.out.push hg5 (by rw [hlen]; exact hown5) hb5⟩
                case measure => simp [intOf]; omega
              · rw [stC2.1, stC2.2] at HT
                go_wp2_with (at_builtin; refine wpList_push wx rfl _ _ 26 rfl (w1.heap.size + 2) 3 (.int .i64 0) 1 8 Tryz.underlying26 Tryz.infoInt rfl (by decide) (.slice av (N + k) cv) (N + k) (ints vs) rfl HOx.out #[.int .i64 (-1)] rfl (oneCell_int _ _) rfl (by unfold maxLen; omega) (by omega) hlx ?_; intro gv capv w5 hown5 hg5 hb5)
                go_roundw
                case rel => exact ⟨k + 1, by omega, by go_num, by rw [HT.out]; exact HVx.out.push hg5 (by rw [hlen]; exact hown5) hb5⟩
                case measure => simp [intOf]; omega
            · simp only at h1 h2 h3 h4
              subst h1 h4
              obtain ⟨gr, rfl, hgr, va⟩ := own_num (j := a.toNat) hown (by omega)
              have ha : a < (N : Int) + k := by omega
              rw [stC5.1, stC5.2] at HT
              obtain ⟨r1, r2⟩ := HRg.out _ (getD_mem (vs := vs) (j := a.toNat) (by omega))
              generalize vs.getD a.toNat 0 = A at *
              clear hown
              have HNot := hid (fun X h => not_any (w1.heap.size + 2) (w1.heap.size + 1) w1.heap.size N C A X h HCI.out r1 r2 hN24 (by omega))
              go_upto_region 26 with (go_at_call 45; refine (HNot.out _ HVx.out.rs).mono ?_; rintro e w3 ⟨rfl, hR3, hF3⟩)
              have HV3 := hid (HVx.out.call HW2.out hR3 hF3)
              have hlx3 : w1.heap.size + 2 ≤ w3.heap.size := HV3.out.rs.lb
              have HO3 := hid (by have := HV3.out.vals; rw [hlen] at this; exact this)
              clear hR3 hF3 va y0 y1 y2
              go_wp2_with (at_builtin; refine wpList_push w3 rfl _ _ 26 rfl (w1.heap.size + 2) 3 (.int .i64 0) 1 8 Tryz.underlying26 Tryz.infoInt rfl (by decide) (.slice (some ⟨gr, 0, none⟩) (N + k) cv) (N + k) (ints vs) rfl HO3.out #[.int .i64 (notV N C A)] rfl (oneCell_int _ _) rfl (by unfold maxLen; omega) (by omega) hlx3 ?_; intro gv capv w5 hown5 hg5 hb5)
              go_roundw
              case rel => exact ⟨k + 1, by omega, by go_num, by rw [HT.out]; exact HV3.out.push hg5 (by rw [hlen]; exact hown5) hb5⟩
              case measure => simp [intOf]; omega
            · simp only at h1 h2 h3 h4 h5
              obtain ⟨gr, rfl, hgr, va⟩ := own_num (j := a.toNat) hown (by omega)
              obtain ⟨gr', e, _, vb⟩ := own_num (j := bb.toNat) hown (by omega)
              simp only [Option.some.injEq, Addr.mk.injEq, and_true] at e
              subst e
              have ha : a < (N : Int) + k := by omega
              have hb : bb < (N : Int) + k := by omega
              obtain ⟨r1, r2⟩ := HRg.out _ (getD_mem (vs := vs) (j := a.toNat) (by omega))
              obtain ⟨s1, s2⟩ := HRg.out _ (getD_mem (vs := vs) (j := bb.toNat) (by omega))
              rcases h1 with rfl | rfl
              · rw [stC3.1, stC3.2] at HT
                generalize vs.getD a.toNat 0 = A at *
                generalize vs.getD bb.toNat 0 = B at *
                have hle := minZ_le A B
                have hor := minZ_or A B
                have hmin : ∀ ats ty, Builtin.min_ ats ty #[.int .i64 A, .int .i64 B] = pure (.int .i64 (minZ A B)) := fun _ _ => rfl
                have hmax : ∀ ats ty, Builtin.max_ ats ty #[.int .i64 A, .int .i64 B] = pure (.int .i64 (maxZ A B)) := fun _ _ => rfl
                generalize minZ A B = A1 at *
                generalize maxZ A B = B1 at *
                clear hown
                have HAnd := hid (fun X h => and_any (w1.heap.size + 2) (w1.heap.size + 1) w1.heap.size N C A1 B1 X h (by omega) hle (by omega) hN24 (by omega))
                go_upto_region 15 with fail
                go_quiet (fail)
                rename Nat => nq
                have HVq := hid (HVx.out.keep (below_drewN (Below.refl wx.heap.size wx) nq))
                obtain ⟨wy, hwy⟩ : ∃ wy, wx.drewN nq = wy := ⟨_, rfl⟩
                have y0 := keeps (below_drewN (Below.refl wx.heap.size wx) nq) y0
                rw [hwy] at HVq y0 ⊢
                clear hwy va vb y1 y2
                go_upto_region 26 with (go_at_call 46; refine (HAnd.out _ HVq.out.rs).mono ?_; rintro e w3 ⟨rfl, hR3, hF3⟩)
                have HV3 := hid (HVq.out.call HW2.out hR3 hF3)
                have hlx3 : w1.heap.size + 2 ≤ w3.heap.size := HV3.out.rs.lb
                have HO3 := hid (by have := HV3.out.vals; rw [hlen] at this; exact this)
                clear hR3 hF3 y0 hmin hmax
                go_wp2_with (at_builtin; refine wpList_push w3 rfl _ _ 26 rfl (w1.heap.size + 2) 3 (.int .i64 0) 1 8 Tryz.underlying26 Tryz.infoInt rfl (by decide) (.slice (some ⟨gr, 0, none⟩) (N + k) cv) (N + k) (ints vs) rfl HO3.out #[.int .i64 (andV N C A1 B1)] rfl (oneCell_int _ _) rfl (by unfold maxLen; omega) (by omega) hlx3 ?_; intro gv capv w5 hown5 hg5 hb5)
                go_roundw
                case rel => exact ⟨k + 1, by omega, by go_num, by rw [HT.out]; exact HV3.out.push hg5 (by rw [hlen]; exact hown5) hb5⟩
                case measure => simp [intOf]; omega
              · rw [stC4.1, stC4.2] at HT
                generalize vs.getD a.toNat 0 = A at *
                generalize vs.getD bb.toNat 0 = B at *
                have hle := minZ_le A B
                have hor := minZ_or A B
                have hmin : ∀ ats ty, Builtin.min_ ats ty #[.int .i64 A, .int .i64 B] = pure (.int .i64 (minZ A B)) := fun _ _ => rfl
                have hmax : ∀ ats ty, Builtin.max_ ats ty #[.int .i64 A, .int .i64 B] = pure (.int .i64 (maxZ A B)) := fun _ _ => rfl
                generalize minZ A B = A1 at *
                generalize maxZ A B = B1 at *
                clear hown
                have HXor := hid (fun X h => xor_any (w1.heap.size + 2) (w1.heap.size + 1) w1.heap.size N C A1 B1 X h HCI.out (by omega) hle (by omega) hN24 (by omega))
                go_upto_region 15 with fail
                go_quiet (fail)
                rename Nat => nq
                have HVq := hid (HVx.out.keep (below_drewN (Below.refl wx.heap.size wx) nq))
                obtain ⟨wy, hwy⟩ : ∃ wy, wx.drewN nq = wy := ⟨_, rfl⟩
                have y0 := keeps (below_drewN (Below.refl wx.heap.size wx) nq) y0
                rw [hwy] at HVq y0 ⊢
                clear hwy va vb y1 y2
                go_upto_region 26 with (go_at_call 47; refine (HXor.out _ HVq.out.rs).mono ?_; rintro e w3 ⟨rfl, hR3, hF3⟩)
                have HV3 := hid (HVq.out.call HW2.out hR3 hF3)
                have hlx3 : w1.heap.size + 2 ≤ w3.heap.size := HV3.out.rs.lb
                have HO3 := hid (by have := HV3.out.vals; rw [hlen] at this; exact this)
                clear hR3 hF3 y0 hmin hmax
                go_wp2_with (at_builtin; refine wpList_push w3 rfl _ _ 26 rfl (w1.heap.size + 2) 3 (.int .i64 0) 1 8 Tryz.underlying26 Tryz.infoInt rfl (by decide) (.slice (some ⟨gr, 0, none⟩) (N + k) cv) (N + k) (ints vs) rfl HO3.out #[.int .i64 (xorV N C A1 B1)] rfl (oneCell_int _ _) rfl (by unfold maxLen; omega) (by omega) hlx3 ?_; intro gv capv w5 hown5 hg5 hb5)
                go_roundw
                case rel => exact ⟨k + 1, by omega, by go_num, by rw [HT.out]; exact HV3.out.push hg5 (by rw [hlen]; exact hown5) hb5⟩
                case measure => simp [intOf]; omega
          · have e : k = c.length := by omega
            subst e
            rw [take_all (Nat.le_refl _)] at HVr hown hlen
            have HVal := hid hown
            have hvl := hlen
            obtain ⟨aC, cC, e0, e1, e2, _, _, hCo, _, hC1, hC2⟩ := HVr.out.rs.c
            have HCo := hid hCo
            have HR7 := hid (row_below HR.out HBl.out)
            have d0 := keeps HBl.out HC0.out.1
            have d2 := keeps HBl.out HC0.out.2.2
            have HDm := hid (And.intro d0 (And.intro d2 e1))
            have HB7 := hid ((HB1.out).trans (HBl.out.mono (by omega)))
            clear hown hlen hCo HVr HInv HBl hlb HR HC0
            have g1 : redC N c o = (packS N (redS N c).1 (ndAll N (redS N c).1 (redS N c).2 o) (redS N c).1.length).1 ++ constL (hasV (redS N c).2 o (-2)) (hasV (redS N c).2 o (-1)) := rfl
            have g2 : redO N c o = o.map fun k => outV N (packS N (redS N c).1 (ndAll N (redS N c).1 (redS N c).2 o) (redS N c).1.length).1.length (hasV (redS N c).2 o (-2)) (packS N (redS N c).1 (ndAll N (redS N c).1 (redS N c).2 o) (redS N c).1.length).2 ((redS N c).2.getD k.toNat 0) := rfl
            obtain ⟨f1, f2, f3, f4, f5⟩ := HF.out
            clear HF HCE
            generalize redS N c = S at *
            obtain ⟨C, vs⟩ := S
            simp only at *
            have HG1 := hid g1
            have HG2 := hid g2
            have HCI := hid f1
            have HFv := hid f3
            have HFc := hid f4
            have HFl := hid f5
            clear g1 g2 f1 f3 f4 f5
            have hval := HVal.out
            rw [hvl] at hval
            obtain ⟨av, cv, rfl⟩ := own_slice hval
            clear HVal
            have HVal := hid hval
            clear hval
            go_upto_region 28 with fail
            go_cut [12] (fun v w' => ∃ g, v = .pointer (some ⟨g, 0, none⟩) ∧ Ops w' g ∧ Below wm.heap.size wm w' ∧ wm.heap.size ≤ g ∧ g < w'.heap.size)
            case first =>
              go_wp2_with (first
                | (go_at_call 42; refine (HOps.out _).mono ?_; rintro e w3 ⟨rfl, hb3⟩)
                | (refine wpList_store_ops w3 _ rfl _ _ rfl rfl rfl rfl ?_; intro w4 hOps4 hb4 hlt4))
              go_meet
              exact ⟨_, rfl, hOps4, bel_step (Below.refl wm.heap.size wm |>.trans hb3) hb4, hb3.size, hlt4⟩
            case rest =>
              obtain ⟨g, rfl, hOps4, hb4, hlg, hlt4⟩ := hcut
              rename_i hK
              refine hK _ _ ?_
              clear hK
              show Code.wp Tryz.prog (dropSeq 7 redBody) _ _ _
              rw [← rest7]
              refine red_need (dropSeq 11 redBody) w w1 wm wc g N cv co cC c C o vs av ao aC HO HB7 HOE HFv HCI HVal HCo HDm hC1 hC2 f2 hvl hN24 hc6 ho6 ho1 ho2 (hid hOps4) (hid hb4) hlg hlt4 ?_ _ _ _ _ _ _ _ _ _ _ _ _ _ _ _ _ _ _ _ _ _ _ _ _ _ _ _ _ _ _ _ _ _ _ _ _ _ _ _ _ _ _ _ _ _ _ _ _ _ _ _ _ _ _ _ _ _ _ _ _ _ _ _ _ _ _ _ _ _ _ _ _ _ _ _ _ _ _ _ _ _ _ _ _ _ _ _ _ _ _ _ _ _ _ _ _ _ _ _ _ _ _ _ _ _ _ _ _ _ _ _ _ _ _ _ _ _ _ _ _ _ _ _ _ _ _ _ _ _ _ _ _ _ _ _ _ _ _ _ _ _ _ _ _ _ _ _ _ _ _ _ _ _ _ _ _ _ _ _ _ _ _ _ _ _ _ _ _ _ _ _ _ _ _ _ _ _ _ _ _ _ _ _ _ _ _ _ _ _ _ _ _ _ _ _ _ _ _ _ _ _ _ _ _ _ _ _ _ _ _ _ _ _ _ _ _ _ _ _ _ _ _ _ _ _ _ _ _ _ _ _ _ _ _ _ _ _ _ _ _ _ _ _ _ _ _ _ _ _ _ _ _ _ _ _ _ _ _ _ _ _ _ _ _ _ _ _ _ _ _ _ _ _ _ _ _
              intro NB w8
              intros
              rename_i HN8
              have HD8 := hid (show ∀ X, Below w8.heap.size w8 X → X.cell? ⟨w.heap.size, 0, none⟩ = some (.int .i64 N) ∧ X.cell? ⟨w.heap.size, 2, none⟩ = some (.slice ao o.length co) ∧ X.cell? ⟨w1.heap.size + 1, 1, none⟩ = some (.slice aC C.length cC) from fun X hX => by
                have hb := HN8.out.bel.trans (hX.mono HN8.out.bel.size)
                exact ⟨keeps hb HDm.out.1, keeps hb HDm.out.2.1, keeps hb HDm.out.2.2⟩)
              show Code.wp Tryz.prog (dropSeq 11 redBody) _ _ _
              rw [← rest11]
              refine red_mid (dropSeq 15 redBody) w w1 wm w8 N g NB cv co cC c C o vs (ndAll N C vs o) av ao aC HN8 HCI HCo HD8 hC1 hC2 f2 hN24 hc6 ?_ _ _ _ _ _ _ _ _ _ _ _ _ _ _ _ _ _ _ _ _ _ _ _ _ _ _ _ _ _ _ _ _ _ _ _ _ _ _ _ _ _ _ _ _ _ _ _ _ _ _ _ _ _ _ _ _ _ _ _ _ _ _ _ _ _ _ _ _ _ _ _ _ _ _ _ _ _ _ _ _ _ _ _ _ _ _ _ _ _ _ _ _ _ _ _ _ _ _ _ _ _ _ _ _ _ _ _ _ _ _ _ _ _ _ _ _ _ _ _ _ _ _ _ _ _ _ _ _ _ _ _ _ _ _ _ _ _ _ _ _ _ _ _ _ _ _ _ _ _ _ _ _ _ _ _ _ _ _ _ _ _ _ _ _ _ _ _ _ _ _ _ _ _ _ _ _ _ _ _ _ _ _ _ _ _ _ _ _ _ _ _ _ _ _ _ _ _ _ _ _ _ _ _ _ _ _ _ _ _ _ _ _ _ _ _ _ _ _ _ _ _ _ _ _ _ _ _ _ _ _ _ _ _ _ _ _ _ _ _ _ _ _ _ _ _ _ _ _ _ _ _ _ _ _ _ _ _ _ _ _ _ _ _ _ _ _ _ _ _ _ _ _ _ _
              intro va wr
              intros
              rename_i HQ
              exact red_end w w1 wm w8 wr N g NB cv co c C (packS N C (ndAll N C vs o) C.length).1 o vs (ndAll N C vs o) (packS N C (ndAll N C vs o) C.length).2 av ao va HPost HO HB7 HOE HFv HVal HR7 HN8 (hid fun X hX => ⟨(HD8.out X hX).1, (HD8.out X hX).2.1⟩) HG1 HG2 HQ (pack_len N C (ndAll N C vs o) C.length) f2 hvl hN24 hc6 ho6 ho1 ho2 _ _ _ _ _ _ _ _ _ _ _ _ _ _ _ _ _ _ _ _ _ _ _ _ _ _ _ _ _ _ _ _ _ _ _ _ _ _ _ _ _ _ _ _ _ _ _ _ _ _ _ _ _ _ _ _ _ _ _ _ _ _ _ _ _ _ _ _ _ _ _ _ _ _ _ _ _ _ _ _ _ _ _ _ _ _ _ _ _ _ _ _ _ _ _ _ _ _ _ _ _ _ _ _ _ _ _ _ _ _ _ _ _ _ _ _ _ _ _ _ _ _ _ _ _ _ _ _ _ _ _ _ _ _ _ _ _ _ _ _ _ _ _ _ _ _ _ _ _ _ _ _ _ _ _ _ _ _ _ _ _ _ _ _ _ _ _ _ _ _ _ _ _ _ _ _ _ _ _ _ _ _ _ _ _ _ _ _ _ _ _ _ _ _ _ _ _ _ _ _ _ _ _ _ _ _ _ _ _ _ _ _ _ _ _ _ _ _ _ _ _ _ _ _ _ _ _ _ _ _ _ _ _ _ _ _ _ _ _ _ _ _ _ _ _ _ _ _ _ _ _ _ _ _ _ _ _ _ _ _ _ _ _ _ _ _ _ _ _ _ _ _ _ _ _
  · have hE2 : (progErr n c o != 0) = true := by simpa using he
    have HPost := hid (show ∀ e w', e = .returned (.tuple #[.agg #[.int .i64 0, .slice none 0 0, .slice none 0 0], .int .i64 1]) → Below w.heap.size w w' → RPost n c o w e w' from fun e w' h hb => by
      unfold RPost redI redE redN redP
      rw [if_neg he, if_neg he, if_neg he, if_neg he]
      exact ⟨_, _, h, World.ownsRow_nil _ _ _ _, World.ownsRow_nil _ _ _ _, hb⟩)
    clear he
    generalize hE : progErr n c o = E at *
    clear hE
    go_enter Tryz.func18, Tryz.ntmps18
    go_upto_region 1 with fail
    obtain ⟨w0, hw0⟩ : ∃ w0, (w.alloc (.cells #[.int .i64 n, .slice ac c.length cc, .slice ao o.length co] 28)).alloc (.cells #[.int .i64 0, .slice none 0 0, .slice none 0 0] 28) = w0 := ⟨_, rfl⟩
    obtain ⟨hb0, hs0, c0, c1, c2, hr⟩ := box2P hw0
    rw [hw0]
    have HB0 := hid hb0
    clear hw0 hb0
    go_upto_region 2 with (go_at_call 39; refine (HCk.out _ (HC.out.below HB0.out) (HO.out.below HB0.out)).mono ?_; rintro e w1 ⟨rfl, hb1⟩)
    have HB1 := hid (bel_step HB0.out hb1)
    have hr := row_below hr hb1
    have r0 := hr.cell (i := 0) (by omega)
    have r1 := hr.cell (i := 1) (by omega)
    have r2 := hr.cell (i := 2) (by omega)
    have f0 := hr.frozen 0
    have f1 := hr.frozen 1
    have f2 := hr.frozen 2
    simp only [p3] at r0 r1 r2
    clear hb1 HB0 HCk hs0 c0 c1 c2
    go_wp2
    refine bodyPost_ret (v := .tuple #[.agg #[.int .i64 0, .slice none 0 0, .slice none 0 0], .int .i64 1]) ?_ rfl (HPost.out _ _ rfl ?_)
    · simp [results, Tryz.results18, go_sem, r0, r1, r2]
    · exact ((HB1.out.setCell (by show w.heap.size ≤ w.heap.size + 1; omega) _).setCell (by show w.heap.size ≤ w.heap.size + 1; omega) _).setCell (by show w.heap.size ≤ w.heap.size + 1; omega) _
end Go.Proofs.YtcdfghogmdhfcaaGreatDoor
