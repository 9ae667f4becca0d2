/-
  The reference's Reduce: the reduced program, the same as program.Reduce's.
  No condition beyond the code and the outputs lying in slices.
-/
import Derived.Test.YtgfeknjhkciooaaDoorRfRedB
import Derived.Test.YtgfeknjhkciooaaDoorRfRedD
import Derived.Test.YtgfeknjhkciooaaDoorRfRedE
import Derived.Test.YtgfeknjhkciooaaDoorPrReduce
namespace Go.Proofs.YtgfeknjhkciooaaDoor
open Go.RowKit Go.Deep
set_option linter.unusedVariables false

structure PS (w2 : World) (N gR : Nat) (C : List Ins) (vs : List Int) (vb vC : Value) (wr : World) : Prop where
  bel : Below w2.heap.size w2 wr
  box : wr.heap[gR]? = some (.cells #[.int .i64 N, vC] 96 (0, 0))
  oc : wr.ownsRow w2.heap.size 41 3 vC C.length (icells C)
  ov : wr.ownsRow w2.heap.size 3 1 vb vs.length (ints vs)
  lR : w2.heap.size ≤ gR
section
variable {w2 wr w' : World} {N gR : Nat} {C C' : List Ins} {vs : List Int} {vb vC : Value}
theorem PS.keep (h : PS w2 N gR C vs vb vC wr) (hb : Below wr.heap.size wr w') : PS w2 N gR C vs vb vC w' :=
  ⟨h.bel.trans (hb.mono h.bel.size), (hb.block _ (Array.getElem?_eq_some_iff.1 h.box).1).trans h.box, own_below h.oc hb, own_below h.ov hb, h.lR⟩
theorem PS.push {vb' : Value} {v : Int} (h : PS w2 N gR C vs vb vC wr) (hg : wr.grownBy w' vb.ownBlock) (ho : w'.ownsRow w2.heap.size 3 1 vb' (vs.length + 1) (ints vs ++ [.int .i64 v])) : PS w2 N gR C (vs ++ [v]) vb' vC w' := by
  refine ⟨h.bel.grown hg h.bel.size fun k hk => (own_block h.ov hk).1, (hg.block gR (Array.getElem?_eq_some_iff.1 h.box).1 fun e => ?_).trans h.box, h.oc.kept hg (own_apart h.oc h.ov (by decide)), ?_, h.lR⟩
  · obtain ⟨_, cur, hc⟩ := own_block h.ov e.symm
    rw [h.box] at hc
    simp only [Option.some.injEq, Obj.cells.injEq] at hc
    exact absurd hc.2.1 (by decide)
  · rw [List.length_append, show ints (vs ++ [v]) = ints vs ++ [.int .i64 v] by simp [ints]]
    exact ho
theorem PS.boxAt (h : PS w2 N gR C vs vb vC wr) (hg : wr.grownBy w' vC.ownBlock) : w'.heap[gR]? = some (.cells #[.int .i64 N, vC] 96 (0, 0)) :=
  (hg.block gR (Array.getElem?_eq_some_iff.1 h.box).1 (own_grown_ne h.oc h.box)).trans h.box
theorem PS.rowAt {gr n cap : Nat} (h : PS w2 N gR C vs vb vC wr) (hv : vb = .slice (some ⟨gr, 0, none⟩) n cap) : gr ≠ gR ∧ some gr ≠ vC.ownBlock ∧ gr < wr.heap.size := by
  obtain ⟨_, cur, hcc⟩ := own_block h.ov (g := gr) (by rw [hv]; rfl)
  refine ⟨fun e => ?_, fun e => ?_, (Array.getElem?_eq_some_iff.1 hcc).1⟩
  · have := h.box
    rw [← e, hcc] at this
    simp only [Option.some.injEq, Obj.cells.injEq] at this
    exact absurd this.2.1 (by decide)
  · obtain ⟨_, cur', hc'⟩ := own_block h.oc e.symm
    rw [hcc] at hc'
    simp only [Option.some.injEq, Obj.cells.injEq] at hc'
    exact absurd hc'.2.1 (by decide)
theorem cell_grown {w w' : World} {row : Option Nat} (hg : w.grownBy w' row) {k j : Nat} {v : Value} (hc : w.cell? ⟨k, j, none⟩ = some v) (hne : some k ≠ row) (hlt : k < w.heap.size) : w'.cell? ⟨k, j, none⟩ = some v := by
  rw [World.cell?_of_block (hg.block k hlt hne)]; exact hc
theorem cell_far {W : World} {k b i j : Nat} {v u : Value} (h : W.cell? ⟨k, j, none⟩ = some v) (hne : k ≠ b) : (W.setCell ⟨b, i, none⟩ u).cell? ⟨k, j, none⟩ = some v := by
  rw [World.cell?_of_block (Below.heap_setCell _ _ _ _ hne)]; exact h
theorem PS.call {vC' : Value} (h : PS w2 N gR C vs vb vC wr) (hg : wr.grownBy w' vC.ownBlock) (ho : w'.ownsRow w2.heap.size 41 3 vC' C'.length (icells C')) : PS w2 N gR C' vs vb vC' ((w'.setCell ⟨gR, 0, none⟩ (.int .i64 N)).setCell ⟨gR, 1, none⟩ vC') := by
  have kb := h.boxAt hg
  refine ⟨((h.bel.grown hg h.bel.size fun k hk => (own_block h.oc hk).1).setCell h.lR _).setCell h.lR _, by simp [World.setCell, Array.getElem?_modify, kb], own_set2 ho kb (by decide) _ _ _ _, own_set2 (h.ov.kept hg (own_apart h.ov h.oc (by decide))) kb (by decide) _ _ _ _, h.lR⟩
end
set_option maxRecDepth 1000000 in
theorem rr7 : withRest 3 (dropSeq 7 rrBody) (dropSeq 10 rrBody) = dropSeq 7 rrBody := by kernel_rfl
theorem rr10 : withRest 3 (dropSeq 10 rrBody) (dropSeq 13 rrBody) = dropSeq 10 rrBody := by kernel_rfl
theorem rr13 : withRest 3 (dropSeq 13 rrBody) (dropSeq 16 rrBody) = dropSeq 13 rrBody := by kernel_rfl
set_option maxRecDepth 1000000 in
set_option maxHeartbeats 8000000 in
theorem rreduce_any (n : Int) (vc vo : Value) (c : List Ins) (o : List Int) (w : World) (hc : Sl 3 w vc c.length (icells c)) (ho : Sl 1 w vo o.length (ints o)) :
    Calls Tryd.prog 15 #[.agg #[.int .i64 n, vc, vo]] w (RPost n c o w) := by
  have HC := hid hc
  have HO := hid ho
  have HCk := hid (fun X h1 h2 => rcheck53_any n vc vo c o X h1 h2)
  obtain ⟨ac, cc, rfl, _, hc1, hc2, hc3⟩ := hc
  obtain ⟨ao, co, rfl, _, ho1, ho2, ho3⟩ := ho
  clear hc3 ho3
  by_cases he : progErr n c o = 0
  · obtain ⟨hn0, hn24, hc6, ho6, hce, hoe⟩ := progErr_zero.1 he
    obtain ⟨N, rfl⟩ : ∃ N : Nat, n = (N : Int) := ⟨n.toNat, by omega⟩
    have HPost := hid (show ∀ e w', (∃ vc vo, e = .returned (.tuple #[.agg #[.int .i64 N, vc, vo], .int .i64 0]) ∧ w'.ownsRow w.heap.size 41 3 vc (redC N c o).length (icells (redC N c o)) ∧ w'.ownsRow w.heap.size 3 1 vo (redO N c o).length (ints (redO N c o)) ∧ Below w.heap.size w w') → RPost N c o w e w' from fun e w' h => by
      unfold RPost redI redE redN redP
      rw [if_pos he, if_pos he, if_pos he, if_pos he, Int.toNat_natCast]
      exact h)
    have HInv := hid (fun k => show RInv N (List.replicate N false) (c.take k) from red_inv (by simp) (pcodeErr_at.2 fun i x hx => by
      rw [List.getElem?_take] at hx
      split at hx
      · exact pcodeErr_at.1 hce i x hx
      · cases hx))
    have HF := hid (red_facts hce hoe)
    have HCE := hid (pcodeErr_at.1 hce)
    have HOE := hid hoe
    have hN24 : N ≤ 24 := by omega
    rw [he] at HCk
    clear he hce hoe hn0 hn24
    go_enter Tryd.func15, Tryd.ntmps15
    go_upto_region 1 with fail
    obtain ⟨w1, hw1⟩ : ∃ w1, (w.alloc (.cells #[.int .i64 N, .slice ac c.length cc, .slice ao o.length co] 25)).alloc (.cells #[.int .i64 0, .slice none 0 0, .slice none 0 0] 25) = w1 := ⟨_, rfl⟩
    obtain ⟨hb1, k1, k2, hs1⟩ := two_lay hw1
    rw [hw1]
    have c0 := blk_cell (j := 0) k1 rfl
    have c1 := blk_cell (j := 1) k1 rfl
    have c2 := blk_cell (j := 2) k1 rfl
    have HK := hid (And.intro k1 k2)
    have HB1 := hid hb1
    have HS1 := hid hs1
    clear hw1 k1 k2 hb1 hs1
    go_upto_region 3 with (go_at_call 17; refine (HCk.out _ (HC.out.below HB1.out) (HO.out.below HB1.out)).mono ?_; rintro e w2 ⟨rfl, hb2⟩)
    have HB2 := hid (bel_step HB1.out hb2)
    have HK2 := hid (show w2.heap[w.heap.size]? = _ ∧ w2.heap[w.heap.size + 1]? = _ from ⟨(hb2.block _ (by have := HS1.out; omega)).trans HK.out.1, (hb2.block _ (by have := HS1.out; omega)).trans HK.out.2⟩)
    have HS2 := hid (show w.heap.size + 1 < w2.heap.size by have := HS1.out; have := hb2.size; omega)
    clear hb2 c0 c1 c2 HK HB1 HS1
    have c0 := blk_cell (j := 0) HK2.out.1 rfl
    go_wp2_with fail
    go_loopw [4, 5] (fun vv i wr => ∃ k : Nat, k ≤ N ∧ i = .int .i64 k ∧ Below w2.heap.size w2 wr ∧ wr.ownsRow w2.heap.size 3 1 vv k (ints (upToI k))) (fun _ i _ => N - (intOf i).toNat)
    case atStart => exact ⟨0, Nat.zero_le _, rfl, Below.refl _ _, World.ownsRow_nil _ _ _ _⟩
    case round =>
      obtain ⟨k, hk, rfl, hbk, hown⟩ := hrel
      have HBk := hid hbk
      have HOk := hid hown
      have HSk := hid hbk.size
      obtain ⟨av, cv, rfl⟩ := own_slice hown
      have d0 := keeps hbk c0
      clear hbk hown
      rename World => wm
      by_cases hlt : k < N
      · have HT := hid (show ints (upToI (k + 1)) = ints (upToI k) ++ [.int .i64 (k : Int)] by rw [upToI_succ]; simp [ints])
        go_wp2_with (at_builtin; refine wpList_push wm rfl _ _ 23 rfl w2.heap.size 3 (.int .i64 0) 1 8 Tryd.underlying23 Tryd.infoInt rfl (by decide) (.slice av k cv) k (ints (upToI k)) rfl HOk.out #[.int .i64 (k : Int)] rfl (oneCell_int _ _) rfl (by unfold maxLen; omega) (by omega) HSk.out ?_; intro gv capv w5 hown5 hg5 hb5)
        go_roundw
        case rel => exact ⟨k + 1, by omega, by go_num, HBk.out.trans hb5, by rw [HT.out]; exact hown5⟩
        case measure => simp [intOf]; omega
      · obtain rfl : N = k := by omega
        go_upto_region 9 with fail
        obtain ⟨w4, hw4⟩ : ∃ w4, wm.alloc (.cells #[.int .i64 N, .slice none 0 0] 96) = w4 := ⟨_, rfl⟩
        have HP0 := hid (show PS w2 N wm.heap.size [] (upToI N) (.slice av N cv) (.slice none 0 0) w4 from by
          have hb4 : Below wm.heap.size wm w4 := by rw [← hw4]; exact bel_alloc _ _
          exact ⟨HBk.out.trans (hb4.mono HBk.out.size), by rw [← hw4]; exact heap_alloc_new wm _, World.ownsRow_nil _ _ _ _, own_below (by rw [upToI_len]; exact HOk.out) hb4, HBk.out.size⟩)
        rw [hw4]
        clear hw4 d0 HSk HOk HBk hlt hk
        generalize wm.heap.size = gR at *
        go_upto_region 10 with fail
        go_loopw [4, 7] (fun vv i wr => ∃ k : Nat, k ≤ c.length ∧ i = .int .i64 k ∧ ∃ vC, PS w2 N gR (redS N (c.take k)).1 (redS N (c.take k)).2 vv vC wr) (fun _ i _ => c.length - (intOf i).toNat)
        case atStart => exact ⟨0, Nat.zero_le _, rfl, _, HP0.out⟩
        case round =>
          obtain ⟨k, hk, rfl, vC, hP⟩ := hrel
          have HP := hid hP
          clear HP0 hP
          have hlen : (redS N (c.take k)).2.length = N + k := by rw [redS_len, List.length_take]; omega
          have HIk := HInv.out k
          obtain ⟨av, cv, rfl⟩ := own_slice HP.out.ov
          obtain ⟨aC, cC, rfl⟩ := own_slice HP.out.oc
          have HBm := hid (HB2.out.trans (HP.out.bel.mono HB2.out.size))
          have HKm := hid ((HP.out.bel.block _ (by have := HS2.out; omega)).trans HK2.out.1)
          have c1 := blk_cell (j := 1) HKm.out rfl
          rename World => wm
          by_cases hlt : k < c.length
          · obtain ⟨x, hx⟩ := some_of_lt hlt
            have hv := insErr_zero.1 (HCE.out k x hx)
            have HT := hid (red_take (N := N) hx)
            have hmost : (redS N (c.take k)).1.length ≤ k := by have := HIk.most; rw [List.length_take] at this; omega
            have HRg := hid HIk.rng
            clear HIk
            generalize hS : redS N (c.take k) = S at *
            clear hS
            obtain ⟨C, vs⟩ := S
            simp only at HP hlen hmost HRg HT
            rw [hlen]
            have HP := hid (show PS w2 N gR C vs (.slice av (N + k) cv) (.slice aC C.length cC) wm by rw [← hlen]; exact HP.out)
            have HOv := hid (show wm.ownsRow w2.heap.size 3 1 (.slice av (N + k) cv) (N + k) (ints vs) by have := HP.out.ov; rw [hlen] at this; exact this)
            obtain ⟨b, off, rfl, x0, x1, x2⟩ := Sl.ins (HC.out.below HBm.out) hx
            clear hx
            obtain ⟨op, a, bb⟩ := x
            go_upto_region 13 with fail
            obtain ⟨wx, hwx⟩ : ∃ wx, wm.alloc (.cells #[.int .i64 op, .int .i64 a, .int .i64 bb] 41) = wx := ⟨_, rfl⟩
            obtain ⟨hbx, y0, y1, y2⟩ := boxI (x := ⟨op, a, bb⟩) hwx
            simp only at y0 y1 y2
            rw [hwx]
            have HPx := hid (HP.out.keep hbx)
            have HOx := hid (own_below HOv.out hbx)
            have HGm := hid (show wm.heap.size ≠ gR ∧ some wm.heap.size ≠ (Value.slice aC C.length cC).ownBlock from ⟨by have := (Array.getElem?_eq_some_iff.1 HP.out.box).1; omega, fun e => by obtain ⟨_, cur, hcc⟩ := own_block HP.out.oc e.symm; have := (Array.getElem?_eq_some_iff.1 hcc).1; omega⟩)
            clear hwx hbx x0 x1 x2 c1 HP HOv
            have r0 := blk_cell (j := 0) HPx.out.box rfl
            have r1 := blk_cell (j := 1) HPx.out.box rfl
            have HGx := hid (show wm.heap.size ≠ gR ∧ some wm.heap.size ≠ (Value.slice aC C.length cC).ownBlock ∧ wm.heap.size < wx.heap.size from ⟨HGm.out.1, HGm.out.2, World.block_lt_of_cell? _ _ y0⟩)
            clear HGm
            generalize wm.heap.size = gx at *
            rcases hv with ⟨h1, h2, h3⟩ | ⟨h1, h2, h3, h4⟩ | ⟨h1, h2, h3, h4, h5⟩
            · simp only at h1 h2 h3
              subst h2 h3
              rcases h1 with rfl | rfl
              · rw [stC1.1, stC1.2] at HT
                go_wp2_with (at_builtin; refine wpList_push wx rfl _ _ 23 rfl w2.heap.size 3 (.int .i64 0) 1 8 Tryd.underlying23 Tryd.infoInt rfl (by decide) (.slice av (N + k) cv) (N + k) (ints vs) rfl HOx.out #[.int .i64 (-2)] rfl (oneCell_int _ _) rfl (by unfold maxLen; omega) (by omega) HPx.out.bel.size ?_; intro gv capv w5 hown5 hg5 hb5)
                go_roundw
                case rel => exact ⟨k + 1, by omega, by go_num, _, by rw [HT.out]; exact HPx.out.push hg5 (by rw [hlen]; exact hown5)⟩
                case measure => simp [intOf]; omega
              · rw [stC2.1, stC2.2] at HT
                go_wp2_with (at_builtin; refine wpList_push wx rfl _ _ 23 rfl w2.heap.size 3 (.int .i64 0) 1 8 Tryd.underlying23 Tryd.infoInt rfl (by decide) (.slice av (N + k) cv) (N + k) (ints vs) rfl HOx.out #[.int .i64 (-1)] rfl (oneCell_int _ _) rfl (by unfold maxLen; omega) (by omega) HPx.out.bel.size ?_; intro gv capv w5 hown5 hg5 hb5)
                go_roundw
                case rel => exact ⟨k + 1, by omega, by go_num, _, by rw [HT.out]; exact HPx.out.push hg5 (by rw [hlen]; exact hown5)⟩
                case measure => simp [intOf]; omega
            · simp only at h1 h2 h3 h4
              subst h1 h4
              obtain ⟨gr, rfl, hgr, va⟩ := own_num (j := a.toNat) HOx.out (by omega)
              have ha : a < (N : Int) + k := by omega
              rw [stC5.1, stC5.2] at HT
              obtain ⟨s1, s2⟩ := HRg.out _ (getD_mem (vs := vs) (j := a.toNat) (by omega))
              generalize vs.getD a.toNat 0 = A at *
              have HCal := hid (fun X h1 h2 => rneg_any w2.heap.size N (.slice aC C.length cC) C A X h1 h2 (by omega) hN24 s1 s2)
              go_upto_region 17 with fail
              go_region_with (go_at_call 48; refine (HCal.out _ (own_below HPx.out.oc (below_drewN (Below.refl _ _) 1)) (by have := HPx.out.bel.size; simpa using this)).mono ?_; rintro e w3 ⟨v3, rfl, ho3, hg3⟩; obtain ⟨a3, c3, rfl⟩ := own_slice ho3; have hg3 := grown_trans (grown_of (w := wx) (w' := wx.drew) (row := (Value.slice aC C.length cC).ownBlock) (below_drewN (Below.refl _ _) 1) (Nat.le_refl _)) hg3; have kb := HPx.out.boxAt hg3; have q0 := blk_cell (j := 0) kb rfl; have q1 := blk_cell (j := 1) kb rfl; have qf0 := blk_frozen (j := 0) kb; have qf1 := blk_frozen (j := 1) kb; have HP4 := hid (HPx.out.call (C' := notC N C A) hg3 ho3); clear ho3 hg3 kb)
              all_goals
                obtain ⟨w4, hw4⟩ : ∃ w4, (w3.setCell ⟨gR, 0, none⟩ (.int .i64 N)).setCell ⟨gR, 1, none⟩ (.slice a3 (notC N C A).length c3) = w4 := ⟨_, rfl⟩
                rw [hw4] at HP4 ⊢
                clear hw4 q0 q1 qf0 qf1 HCal r0 r1 y0 y1 y2
                have HO4 := hid (show w4.ownsRow w2.heap.size 3 1 (.slice (some ⟨gr, 0, none⟩) (N + k) cv) (N + k) (ints vs) by have := HP4.out.ov; rw [hlen] at this; exact this)
                go_wp2_with (at_builtin; refine wpList_push w4 rfl _ _ 23 rfl w2.heap.size 3 (.int .i64 0) 1 8 Tryd.underlying23 Tryd.infoInt rfl (by decide) (.slice (some ⟨gr, 0, none⟩) (N + k) cv) (N + k) (ints vs) rfl HO4.out #[.int .i64 (notV N C A)] rfl (oneCell_int _ _) rfl (by unfold maxLen; omega) (by omega) HP4.out.bel.size ?_; intro gv capv w5 hown5 hg5 hb5)
                go_roundw
                case rel => exact ⟨k + 1, by omega, by go_num, _, by rw [HT.out]; exact HP4.out.push hg5 (by rw [hlen]; exact hown5)⟩
                case measure => simp [intOf]; omega
            · simp only at h1 h2 h3 h4 h5
              obtain ⟨gr, rfl, hgr, va⟩ := own_num (j := a.toNat) HOx.out (by omega)
              obtain ⟨gr', e, _, vb⟩ := own_num (j := bb.toNat) HOx.out (by omega)
              simp only [Option.some.injEq, Addr.mk.injEq, and_true] at e
              subst e
              have ha : a < (N : Int) + k := by omega
              have hb : bb < (N : Int) + k := by omega
              obtain ⟨s1, s2⟩ := HRg.out _ (getD_mem (vs := vs) (j := a.toNat) (by omega))
              have HGr := hid (PS.rowAt HPx.out rfl)
              obtain ⟨s3, s4⟩ := HRg.out _ (getD_mem (vs := vs) (j := bb.toNat) (by omega))
              rcases h1 with rfl | rfl
              · rw [stC3.1, stC3.2] at HT
                generalize vs.getD a.toNat 0 = A at *
                generalize vs.getD bb.toNat 0 = B at *
                have HCal := hid (fun X h1 h2 => rboth3 w2.heap.size N (.slice aC C.length cC) C A B X h1 h2 (by omega) hN24 s1 s2 s3 s4)
                go_upto_region 20 with fail
                have n1 := HGx.out.1
                have n2 := HGr.out.1
                refine wp_region_held_drew (S := (fun w' => w'.cell? ⟨gx, 0, none⟩ = some (.int .i64 3) ∧ w'.cell? ⟨gx, 1, none⟩ = some (.int .i64 a) ∧ w'.cell? ⟨gx, 2, none⟩ = some (.int .i64 bb) ∧ w'.cell? ⟨gr, a.toNat, none⟩ = some (.int .i64 A) ∧ w'.cell? ⟨gr, bb.toNat, none⟩ = some (.int .i64 B))) (by kernel_rfl) ⟨y0, y1, y2, va, vb⟩ (fun hHeld => ?_)
                refine wpAnyH_take (i := 1) (v := .pointer (some ⟨gx, 0, none⟩)) rfl (by kernel_rfl) (by kernel_rfl) (by kernel_rfl) (fun _ _ _ h => h) (Or.inl ⟨by rfl, fun w hSw => ?_⟩) (by assumption) ?_
                · (try dsimp only at hSw); go_simp
                simp only [Act.put, List.setIfInBounds_toArray, List.set_cons_zero, List.set_cons_succ, List.getElem_toArray, List.getElem_cons_zero, List.getElem_cons_succ]
                refine wpAnyH_take (i := 2) (v := .int .i64 3) rfl (by kernel_rfl) (by kernel_rfl) (by kernel_rfl) (fun _ _ _ h => h) (Or.inl ⟨by rfl, fun w hSw => ?_⟩) (by assumption) ?_
                · (try dsimp only at hSw); go_simp
                simp only [Act.put, List.setIfInBounds_toArray, List.set_cons_zero, List.set_cons_succ, List.getElem_toArray, List.getElem_cons_zero, List.getElem_cons_succ]
                refine wpAnyH_take (i := 3) (v := .slice (some ⟨gr, 0, none⟩) (N + k) cv) rfl (by kernel_rfl) (by kernel_rfl) (by kernel_rfl) (fun _ _ _ h => h) (Or.inl ⟨by rfl, fun w hSw => ?_⟩) (by assumption) ?_
                · (try dsimp only at hSw); go_simp
                simp only [Act.put, List.setIfInBounds_toArray, List.set_cons_zero, List.set_cons_succ, List.getElem_toArray, List.getElem_cons_zero, List.getElem_cons_succ]
                refine wpAnyH_take (i := 4) (v := .pointer (some ⟨gx, 1, none⟩)) rfl (by kernel_rfl) (by kernel_rfl) (by kernel_rfl) (fun _ _ _ h => h) (Or.inl ⟨by rfl, fun w hSw => ?_⟩) (by assumption) ?_
                · (try dsimp only at hSw); go_simp
                simp only [Act.put, List.setIfInBounds_toArray, List.set_cons_zero, List.set_cons_succ, List.getElem_toArray, List.getElem_cons_zero, List.getElem_cons_succ]
                refine wpAnyH_take (i := 5) (v := .int .i64 a) rfl (by kernel_rfl) (by kernel_rfl) (by kernel_rfl) (fun _ _ _ h => h) (Or.inl ⟨by rfl, fun w hSw => ?_⟩) (by assumption) ?_
                · (try dsimp only at hSw); go_simp
                simp only [Act.put, List.setIfInBounds_toArray, List.set_cons_zero, List.set_cons_succ, List.getElem_toArray, List.getElem_cons_zero, List.getElem_cons_succ]
                refine wpAnyH_take (i := 6) (v := .pointer (some ⟨gr, a.toNat, none⟩)) rfl (by kernel_rfl) (by kernel_rfl) (by kernel_rfl) (fun _ _ _ h => h) (Or.inl ⟨by rfl, fun w hSw => ?_⟩) (by assumption) ?_
                · (try dsimp only at hSw); go_simp
                simp only [Act.put, List.setIfInBounds_toArray, List.set_cons_zero, List.set_cons_succ, List.getElem_toArray, List.getElem_cons_zero, List.getElem_cons_succ]
                refine wpAnyH_take (i := 7) (v := .int .i64 A) rfl (by kernel_rfl) (by kernel_rfl) (by kernel_rfl) (fun _ _ _ h => h) (Or.inl ⟨by rfl, fun w hSw => ?_⟩) (by assumption) ?_
                · (try dsimp only at hSw); go_simp
                simp only [Act.put, List.setIfInBounds_toArray, List.set_cons_zero, List.set_cons_succ, List.getElem_toArray, List.getElem_cons_zero, List.getElem_cons_succ]
                refine wpAnyH_take (i := 8) (v := .slice (some ⟨gr, 0, none⟩) (N + k) cv) rfl (by kernel_rfl) (by kernel_rfl) (by kernel_rfl) (fun _ _ _ h => h) (Or.inl ⟨by rfl, fun w hSw => ?_⟩) (by assumption) ?_
                · (try dsimp only at hSw); go_simp
                simp only [Act.put, List.setIfInBounds_toArray, List.set_cons_zero, List.set_cons_succ, List.getElem_toArray, List.getElem_cons_zero, List.getElem_cons_succ]
                refine wpAnyH_take (i := 9) (v := .pointer (some ⟨gx, 2, none⟩)) rfl (by kernel_rfl) (by kernel_rfl) (by kernel_rfl) (fun _ _ _ h => h) (Or.inl ⟨by rfl, fun w hSw => ?_⟩) (by assumption) ?_
                · (try dsimp only at hSw); go_simp
                simp only [Act.put, List.setIfInBounds_toArray, List.set_cons_zero, List.set_cons_succ, List.getElem_toArray, List.getElem_cons_zero, List.getElem_cons_succ]
                refine wpAnyH_take (i := 10) (v := .int .i64 bb) rfl (by kernel_rfl) (by kernel_rfl) (by kernel_rfl) (fun _ _ _ h => h) (Or.inl ⟨by rfl, fun w hSw => ?_⟩) (by assumption) ?_
                · (try dsimp only at hSw); go_simp
                simp only [Act.put, List.setIfInBounds_toArray, List.set_cons_zero, List.set_cons_succ, List.getElem_toArray, List.getElem_cons_zero, List.getElem_cons_succ]
                refine wpAnyH_take (i := 11) (v := .pointer (some ⟨gr, bb.toNat, none⟩)) rfl (by kernel_rfl) (by kernel_rfl) (by kernel_rfl) (fun _ _ _ h => h) (Or.inl ⟨by rfl, fun w hSw => ?_⟩) (by assumption) ?_
                · (try dsimp only at hSw); go_simp
                simp only [Act.put, List.setIfInBounds_toArray, List.set_cons_zero, List.set_cons_succ, List.getElem_toArray, List.getElem_cons_zero, List.getElem_cons_succ]
                refine wpAnyH_take (i := 12) (v := .int .i64 B) rfl (by kernel_rfl) (by kernel_rfl) (by kernel_rfl) (fun _ _ _ h => h) (Or.inl ⟨by rfl, fun w hSw => ?_⟩) (by assumption) ?_
                · (try dsimp only at hSw); go_simp
                simp only [Act.put, List.setIfInBounds_toArray, List.set_cons_zero, List.set_cons_succ, List.getElem_toArray, List.getElem_cons_zero, List.getElem_cons_succ]
                refine wpAnyH_ready (rs := [0]) (by kernel_rfl) (by simp) (AllReadyH.cons rfl (fun K hK => ?_) AllReadyH.nil)
                go_simp
                refine hK.out _ _ ⟨y0, y1, y2, va, vb⟩ (fun hHeld2 => ?_)
                clear hK K hHeld
                try simp only [Act.put, List.setIfInBounds_toArray, List.set_cons_zero, List.set_cons_succ, List.getElem_toArray, List.getElem_cons_zero, List.getElem_cons_succ]
                refine wpAnyH_ready (rs := [13]) (by kernel_rfl) (by simp) (AllReadyH.cons rfl (fun K hK => ?_) AllReadyH.nil)
                go_simp
                (go_at_call 49; refine (HCal.out _ (own_below HPx.out.oc (below_drewN (Below.refl _ _) 1)) (by have := HPx.out.bel.size; simpa using this)).mono ?_; rintro e w3 ⟨v3, rfl, ho3, hg3⟩; obtain ⟨a3, c3, rfl⟩ := own_slice ho3; have hg3 := grown_trans (grown_of (w := wx) (w' := wx.drew) (row := (Value.slice aC C.length cC).ownBlock) (below_drewN (Below.refl _ _) 1) (Nat.le_refl _)) hg3; have kb := HPx.out.boxAt hg3; have q0 := blk_cell (j := 0) kb rfl; have q1 := blk_cell (j := 1) kb rfl; have qf0 := blk_frozen (j := 0) kb; have qf1 := blk_frozen (j := 1) kb; have HP4 := hid (HPx.out.call (C' := andC N C (minZ A B) (maxZ A B)) hg3 ho3); have y0 := cell_grown hg3 y0 HGx.out.2.1 HGx.out.2.2; have y1 := cell_grown hg3 y1 HGx.out.2.1 HGx.out.2.2; have y2 := cell_grown hg3 y2 HGx.out.2.1 HGx.out.2.2; have va := cell_grown hg3 va HGr.out.2.1 HGr.out.2.2; have vb := cell_grown hg3 vb HGr.out.2.1 HGr.out.2.2; clear ho3 hg3 kb)
                try go_wp2_with fail
                refine hK.out _ _ ⟨y0, y1, y2, va, vb⟩ (fun hHeld3 => ?_)
                clear hK K hHeld2
                try simp only [Act.put, List.setIfInBounds_toArray, List.set_cons_zero, List.set_cons_succ, List.getElem_toArray, List.getElem_cons_zero, List.getElem_cons_succ]
                refine wpAnyH_take (i := 14) (v := .tuple #[.agg #[.int .i64 N, .slice a3 (andC N C (minZ A B) (maxZ A B)).length c3], .int .i64 (andV N C (minZ A B) (maxZ A B))]) rfl (by kernel_rfl) (by kernel_rfl) (by kernel_rfl) (fun _ _ _ h => h) (Or.inl ⟨by rfl, fun w hSw => ?_⟩) (by assumption) ?_
                · (try dsimp only at hSw); go_simp
                simp only [Act.put, List.setIfInBounds_toArray, List.set_cons_zero, List.set_cons_succ, List.getElem_toArray, List.getElem_cons_zero, List.getElem_cons_succ]
                refine wpAnyH_take (i := 15) (v := .agg #[.int .i64 N, .slice a3 (andC N C (minZ A B) (maxZ A B)).length c3]) rfl (by kernel_rfl) (by kernel_rfl) (by kernel_rfl) (fun _ _ _ h => h) (Or.inl ⟨by rfl, fun w hSw => ?_⟩) (by assumption) ?_
                · (try dsimp only at hSw); go_simp
                simp only [Act.put, List.setIfInBounds_toArray, List.set_cons_zero, List.set_cons_succ, List.getElem_toArray, List.getElem_cons_zero, List.getElem_cons_succ]
                refine wpAnyH_take (i := 16) (v := .int .i64 (andV N C (minZ A B) (maxZ A B))) rfl (by kernel_rfl) (by kernel_rfl) (by kernel_rfl) (fun _ _ _ h => h) (Or.inl ⟨by rfl, fun w hSw => ?_⟩) (by assumption) ?_
                · (try dsimp only at hSw); go_simp
                simp only [Act.put, List.setIfInBounds_toArray, List.set_cons_zero, List.set_cons_succ, List.getElem_toArray, List.getElem_cons_zero, List.getElem_cons_succ]
                refine wpAnyH_ready (rs := [17]) (by kernel_rfl) (by simp) (AllReadyH.cons rfl (fun K hK => ?_) AllReadyH.nil)
                go_simp
                refine hK.out _ _ ⟨cell_far (cell_far y0 n1) n1, cell_far (cell_far y1 n1) n1, cell_far (cell_far y2 n1) n1, cell_far (cell_far va n2) n2, cell_far (cell_far vb n2) n2⟩ (fun hHeld4 => ?_)
                clear hK K hHeld3
                try simp only [Act.put, List.setIfInBounds_toArray, List.set_cons_zero, List.set_cons_succ, List.getElem_toArray, List.getElem_cons_zero, List.getElem_cons_succ]
                refine wpAnyH_take (i := 18) (v := .int .i64 (andV N C (minZ A B) (maxZ A B))) rfl (by kernel_rfl) (by kernel_rfl) (by kernel_rfl) (fun _ _ _ h => h) (Or.inl ⟨by rfl, fun w hSw => ?_⟩) (by assumption) ?_
                · (try dsimp only at hSw); go_simp
                simp only [Act.put, List.setIfInBounds_toArray, List.set_cons_zero, List.set_cons_succ, List.getElem_toArray, List.getElem_cons_zero, List.getElem_cons_succ]
                refine wpAnyH_done (by kernel_rfl) ?_ _
                all_goals
                  obtain ⟨w4, hw4⟩ : ∃ w4, (w3.setCell ⟨gR, 0, none⟩ (.int .i64 N)).setCell ⟨gR, 1, none⟩ (.slice a3 (andC N C (minZ A B) (maxZ A B)).length c3) = w4 := ⟨_, rfl⟩
                  rw [hw4] at HP4 ⊢
                  clear hw4 q0 q1 qf0 qf1 HCal r0 r1 y0 y1 y2
                  have HO4 := hid (show w4.ownsRow w2.heap.size 3 1 (.slice (some ⟨gr, 0, none⟩) (N + k) cv) (N + k) (ints vs) by have := HP4.out.ov; rw [hlen] at this; exact this)
                  go_wp2_with (at_builtin; refine wpList_push w4 rfl _ _ 23 rfl w2.heap.size 3 (.int .i64 0) 1 8 Tryd.underlying23 Tryd.infoInt rfl (by decide) (.slice (some ⟨gr, 0, none⟩) (N + k) cv) (N + k) (ints vs) rfl HO4.out #[.int .i64 (andV N C (minZ A B) (maxZ A B))] rfl (oneCell_int _ _) rfl (by unfold maxLen; omega) (by omega) HP4.out.bel.size ?_; intro gv capv w5 hown5 hg5 hb5)
                  go_roundw
                  case rel => exact ⟨k + 1, by omega, by go_num, _, by rw [HT.out]; exact HP4.out.push hg5 (by rw [hlen]; exact hown5)⟩
                  case measure => simp [intOf]; omega
              · rw [stC4.1, stC4.2] at HT
                generalize vs.getD a.toNat 0 = A at *
                generalize vs.getD bb.toNat 0 = B at *
                have HCal := hid (fun X h1 h2 => rboth4 w2.heap.size N (.slice aC C.length cC) C A B X h1 h2 (by omega) hN24 s1 s2 s3 s4)
                go_upto_region 20 with fail
                have n1 := HGx.out.1
                have n2 := HGr.out.1
                refine wp_region_held_drew (S := (fun w' => w'.cell? ⟨gx, 0, none⟩ = some (.int .i64 4) ∧ w'.cell? ⟨gx, 1, none⟩ = some (.int .i64 a) ∧ w'.cell? ⟨gx, 2, none⟩ = some (.int .i64 bb) ∧ w'.cell? ⟨gr, a.toNat, none⟩ = some (.int .i64 A) ∧ w'.cell? ⟨gr, bb.toNat, none⟩ = some (.int .i64 B))) (by kernel_rfl) ⟨y0, y1, y2, va, vb⟩ (fun hHeld => ?_)
                refine wpAnyH_take (i := 1) (v := .pointer (some ⟨gx, 0, none⟩)) rfl (by kernel_rfl) (by kernel_rfl) (by kernel_rfl) (fun _ _ _ h => h) (Or.inl ⟨by rfl, fun w hSw => ?_⟩) (by assumption) ?_
                · (try dsimp only at hSw); go_simp
                simp only [Act.put, List.setIfInBounds_toArray, List.set_cons_zero, List.set_cons_succ, List.getElem_toArray, List.getElem_cons_zero, List.getElem_cons_succ]
                refine wpAnyH_take (i := 2) (v := .int .i64 4) rfl (by kernel_rfl) (by kernel_rfl) (by kernel_rfl) (fun _ _ _ h => h) (Or.inl ⟨by rfl, fun w hSw => ?_⟩) (by assumption) ?_
                · (try dsimp only at hSw); go_simp
                simp only [Act.put, List.setIfInBounds_toArray, List.set_cons_zero, List.set_cons_succ, List.getElem_toArray, List.getElem_cons_zero, List.getElem_cons_succ]
                refine wpAnyH_take (i := 3) (v := .slice (some ⟨gr, 0, none⟩) (N + k) cv) rfl (by kernel_rfl) (by kernel_rfl) (by kernel_rfl) (fun _ _ _ h => h) (Or.inl ⟨by rfl, fun w hSw => ?_⟩) (by assumption) ?_
                · (try dsimp only at hSw); go_simp
                simp only [Act.put, List.setIfInBounds_toArray, List.set_cons_zero, List.set_cons_succ, List.getElem_toArray, List.getElem_cons_zero, List.getElem_cons_succ]
                refine wpAnyH_take (i := 4) (v := .pointer (some ⟨gx, 1, none⟩)) rfl (by kernel_rfl) (by kernel_rfl) (by kernel_rfl) (fun _ _ _ h => h) (Or.inl ⟨by rfl, fun w hSw => ?_⟩) (by assumption) ?_
                · (try dsimp only at hSw); go_simp
                simp only [Act.put, List.setIfInBounds_toArray, List.set_cons_zero, List.set_cons_succ, List.getElem_toArray, List.getElem_cons_zero, List.getElem_cons_succ]
                refine wpAnyH_take (i := 5) (v := .int .i64 a) rfl (by kernel_rfl) (by kernel_rfl) (by kernel_rfl) (fun _ _ _ h => h) (Or.inl ⟨by rfl, fun w hSw => ?_⟩) (by assumption) ?_
                · (try dsimp only at hSw); go_simp
                simp only [Act.put, List.setIfInBounds_toArray, List.set_cons_zero, List.set_cons_succ, List.getElem_toArray, List.getElem_cons_zero, List.getElem_cons_succ]
                refine wpAnyH_take (i := 6) (v := .pointer (some ⟨gr, a.toNat, none⟩)) rfl (by kernel_rfl) (by kernel_rfl) (by kernel_rfl) (fun _ _ _ h => h) (Or.inl ⟨by rfl, fun w hSw => ?_⟩) (by assumption) ?_
                · (try dsimp only at hSw); go_simp
                simp only [Act.put, List.setIfInBounds_toArray, List.set_cons_zero, List.set_cons_succ, List.getElem_toArray, List.getElem_cons_zero, List.getElem_cons_succ]
                refine wpAnyH_take (i := 7) (v := .int .i64 A) rfl (by kernel_rfl) (by kernel_rfl) (by kernel_rfl) (fun _ _ _ h => h) (Or.inl ⟨by rfl, fun w hSw => ?_⟩) (by assumption) ?_
                · (try dsimp only at hSw); go_simp
                simp only [Act.put, List.setIfInBounds_toArray, List.set_cons_zero, List.set_cons_succ, List.getElem_toArray, List.getElem_cons_zero, List.getElem_cons_succ]
                refine wpAnyH_take (i := 8) (v := .slice (some ⟨gr, 0, none⟩) (N + k) cv) rfl (by kernel_rfl) (by kernel_rfl) (by kernel_rfl) (fun _ _ _ h => h) (Or.inl ⟨by rfl, fun w hSw => ?_⟩) (by assumption) ?_
                · (try dsimp only at hSw); go_simp
                simp only [Act.put, List.setIfInBounds_toArray, List.set_cons_zero, List.set_cons_succ, List.getElem_toArray, List.getElem_cons_zero, List.getElem_cons_succ]
                refine wpAnyH_take (i := 9) (v := .pointer (some ⟨gx, 2, none⟩)) rfl (by kernel_rfl) (by kernel_rfl) (by kernel_rfl) (fun _ _ _ h => h) (Or.inl ⟨by rfl, fun w hSw => ?_⟩) (by assumption) ?_
                · (try dsimp only at hSw); go_simp
                simp only [Act.put, List.setIfInBounds_toArray, List.set_cons_zero, List.set_cons_succ, List.getElem_toArray, List.getElem_cons_zero, List.getElem_cons_succ]
                refine wpAnyH_take (i := 10) (v := .int .i64 bb) rfl (by kernel_rfl) (by kernel_rfl) (by kernel_rfl) (fun _ _ _ h => h) (Or.inl ⟨by rfl, fun w hSw => ?_⟩) (by assumption) ?_
                · (try dsimp only at hSw); go_simp
                simp only [Act.put, List.setIfInBounds_toArray, List.set_cons_zero, List.set_cons_succ, List.getElem_toArray, List.getElem_cons_zero, List.getElem_cons_succ]
                refine wpAnyH_take (i := 11) (v := .pointer (some ⟨gr, bb.toNat, none⟩)) rfl (by kernel_rfl) (by kernel_rfl) (by kernel_rfl) (fun _ _ _ h => h) (Or.inl ⟨by rfl, fun w hSw => ?_⟩) (by assumption) ?_
                · (try dsimp only at hSw); go_simp
                simp only [Act.put, List.setIfInBounds_toArray, List.set_cons_zero, List.set_cons_succ, List.getElem_toArray, List.getElem_cons_zero, List.getElem_cons_succ]
                refine wpAnyH_take (i := 12) (v := .int .i64 B) rfl (by kernel_rfl) (by kernel_rfl) (by kernel_rfl) (fun _ _ _ h => h) (Or.inl ⟨by rfl, fun w hSw => ?_⟩) (by assumption) ?_
                · (try dsimp only at hSw); go_simp
                simp only [Act.put, List.setIfInBounds_toArray, List.set_cons_zero, List.set_cons_succ, List.getElem_toArray, List.getElem_cons_zero, List.getElem_cons_succ]
                refine wpAnyH_ready (rs := [0]) (by kernel_rfl) (by simp) (AllReadyH.cons rfl (fun K hK => ?_) AllReadyH.nil)
                go_simp
                refine hK.out _ _ ⟨y0, y1, y2, va, vb⟩ (fun hHeld2 => ?_)
                clear hK K hHeld
                try simp only [Act.put, List.setIfInBounds_toArray, List.set_cons_zero, List.set_cons_succ, List.getElem_toArray, List.getElem_cons_zero, List.getElem_cons_succ]
                refine wpAnyH_ready (rs := [13]) (by kernel_rfl) (by simp) (AllReadyH.cons rfl (fun K hK => ?_) AllReadyH.nil)
                go_simp
                (go_at_call 49; refine (HCal.out _ (own_below HPx.out.oc (below_drewN (Below.refl _ _) 1)) (by have := HPx.out.bel.size; simpa using this)).mono ?_; rintro e w3 ⟨v3, rfl, ho3, hg3⟩; obtain ⟨a3, c3, rfl⟩ := own_slice ho3; have hg3 := grown_trans (grown_of (w := wx) (w' := wx.drew) (row := (Value.slice aC C.length cC).ownBlock) (below_drewN (Below.refl _ _) 1) (Nat.le_refl _)) hg3; have kb := HPx.out.boxAt hg3; have q0 := blk_cell (j := 0) kb rfl; have q1 := blk_cell (j := 1) kb rfl; have qf0 := blk_frozen (j := 0) kb; have qf1 := blk_frozen (j := 1) kb; have HP4 := hid (HPx.out.call (C' := xorC N C (minZ A B) (maxZ A B)) hg3 ho3); have y0 := cell_grown hg3 y0 HGx.out.2.1 HGx.out.2.2; have y1 := cell_grown hg3 y1 HGx.out.2.1 HGx.out.2.2; have y2 := cell_grown hg3 y2 HGx.out.2.1 HGx.out.2.2; have va := cell_grown hg3 va HGr.out.2.1 HGr.out.2.2; have vb := cell_grown hg3 vb HGr.out.2.1 HGr.out.2.2; clear ho3 hg3 kb)
                try go_wp2_with fail
                refine hK.out _ _ ⟨y0, y1, y2, va, vb⟩ (fun hHeld3 => ?_)
                clear hK K hHeld2
                try simp only [Act.put, List.setIfInBounds_toArray, List.set_cons_zero, List.set_cons_succ, List.getElem_toArray, List.getElem_cons_zero, List.getElem_cons_succ]
                refine wpAnyH_take (i := 14) (v := .tuple #[.agg #[.int .i64 N, .slice a3 (xorC N C (minZ A B) (maxZ A B)).length c3], .int .i64 (xorV N C (minZ A B) (maxZ A B))]) rfl (by kernel_rfl) (by kernel_rfl) (by kernel_rfl) (fun _ _ _ h => h) (Or.inl ⟨by rfl, fun w hSw => ?_⟩) (by assumption) ?_
                · (try dsimp only at hSw); go_simp
                simp only [Act.put, List.setIfInBounds_toArray, List.set_cons_zero, List.set_cons_succ, List.getElem_toArray, List.getElem_cons_zero, List.getElem_cons_succ]
                refine wpAnyH_take (i := 15) (v := .agg #[.int .i64 N, .slice a3 (xorC N C (minZ A B) (maxZ A B)).length c3]) rfl (by kernel_rfl) (by kernel_rfl) (by kernel_rfl) (fun _ _ _ h => h) (Or.inl ⟨by rfl, fun w hSw => ?_⟩) (by assumption) ?_
                · (try dsimp only at hSw); go_simp
                simp only [Act.put, List.setIfInBounds_toArray, List.set_cons_zero, List.set_cons_succ, List.getElem_toArray, List.getElem_cons_zero, List.getElem_cons_succ]
                refine wpAnyH_take (i := 16) (v := .int .i64 (xorV N C (minZ A B) (maxZ A B))) rfl (by kernel_rfl) (by kernel_rfl) (by kernel_rfl) (fun _ _ _ h => h) (Or.inl ⟨by rfl, fun w hSw => ?_⟩) (by assumption) ?_
                · (try dsimp only at hSw); go_simp
                simp only [Act.put, List.setIfInBounds_toArray, List.set_cons_zero, List.set_cons_succ, List.getElem_toArray, List.getElem_cons_zero, List.getElem_cons_succ]
                refine wpAnyH_ready (rs := [17]) (by kernel_rfl) (by simp) (AllReadyH.cons rfl (fun K hK => ?_) AllReadyH.nil)
                go_simp
                refine hK.out _ _ ⟨cell_far (cell_far y0 n1) n1, cell_far (cell_far y1 n1) n1, cell_far (cell_far y2 n1) n1, cell_far (cell_far va n2) n2, cell_far (cell_far vb n2) n2⟩ (fun hHeld4 => ?_)
                clear hK K hHeld3
                try simp only [Act.put, List.setIfInBounds_toArray, List.set_cons_zero, List.set_cons_succ, List.getElem_toArray, List.getElem_cons_zero, List.getElem_cons_succ]
                refine wpAnyH_take (i := 18) (v := .int .i64 (xorV N C (minZ A B) (maxZ A B))) rfl (by kernel_rfl) (by kernel_rfl) (by kernel_rfl) (fun _ _ _ h => h) (Or.inl ⟨by rfl, fun w hSw => ?_⟩) (by assumption) ?_
                · (try dsimp only at hSw); go_simp
                simp only [Act.put, List.setIfInBounds_toArray, List.set_cons_zero, List.set_cons_succ, List.getElem_toArray, List.getElem_cons_zero, List.getElem_cons_succ]
                refine wpAnyH_done (by kernel_rfl) ?_ _
                all_goals
                  obtain ⟨w4, hw4⟩ : ∃ w4, (w3.setCell ⟨gR, 0, none⟩ (.int .i64 N)).setCell ⟨gR, 1, none⟩ (.slice a3 (xorC N C (minZ A B) (maxZ A B)).length c3) = w4 := ⟨_, rfl⟩
                  rw [hw4] at HP4 ⊢
                  clear hw4 q0 q1 qf0 qf1 HCal r0 r1 y0 y1 y2
                  have HO4 := hid (show w4.ownsRow w2.heap.size 3 1 (.slice (some ⟨gr, 0, none⟩) (N + k) cv) (N + k) (ints vs) by have := HP4.out.ov; rw [hlen] at this; exact this)
                  go_wp2_with (at_builtin; refine wpList_push w4 rfl _ _ 23 rfl w2.heap.size 3 (.int .i64 0) 1 8 Tryd.underlying23 Tryd.infoInt rfl (by decide) (.slice (some ⟨gr, 0, none⟩) (N + k) cv) (N + k) (ints vs) rfl HO4.out #[.int .i64 (xorV N C (minZ A B) (maxZ A B))] rfl (oneCell_int _ _) rfl (by unfold maxLen; omega) (by omega) HP4.out.bel.size ?_; intro gv capv w5 hown5 hg5 hb5)
                  go_roundw
                  case rel => exact ⟨k + 1, by omega, by go_num, _, by rw [HT.out]; exact HP4.out.push hg5 (by rw [hlen]; exact hown5)⟩
                  case measure => simp [intOf]; omega
          · obtain rfl : k = c.length := by omega
            rw [take_all (Nat.le_refl _)] at *
            have hmost : (redS N c).1.length ≤ c.length := HIk.most
            clear HIk hlt hk
            have HG1 := hid (show redC N c o = (packS N (redS N c).1 (ndAll N (redS N c).1 (redS N c).2 o) (redS N c).1.length).1 ++ constL (hasV (redS N c).2 o (-2)) (hasV (redS N c).2 o (-1)) from rfl)
            have HG2 := hid (show redO N c o = o.map (outF N (packS N (redS N c).1 (ndAll N (redS N c).1 (redS N c).2 o) (redS N c).1.length).1.length (hasV (redS N c).2 o (-2)) (packS N (redS N c).1 (ndAll N (redS N c).1 (redS N c).2 o) (redS N c).1.length).2 (redS N c).2) from rfl)
            have HCI := hid HF.out.inv
            have HFv := hid HF.out.vals
            clear HF HInv HCE
            generalize hS : redS N c = S at *
            clear hS
            obtain ⟨C, vs⟩ := S
            simp only at HP hlen hmost HCI HFv HG1 HG2
            rw [hlen]
            have HRE := hid (show RE w.heap.size gR N c.length C o vs av ao aC cv co cC wm from
              ⟨blk_cell HKm.out rfl, blk_cell HKm.out rfl, blk_cell HP.out.box rfl, own_base HP.out.oc (Nat.zero_le _), by have := own_base HP.out.ov (Nat.zero_le 0 |> fun _ => Nat.zero_le _); rw [hlen] at this; exact this, HO.out.below HBm.out, (HP.out.bel.block _ HS2.out).trans HK2.out.2⟩)
            obtain ⟨_, _, e0, _, hC1, hC2, _⟩ := Sl.of_owns HP.out.oc
            simp only [Value.slice.injEq, true_and] at e0
            obtain ⟨rfl, rfl⟩ := e0
            have c0 := HRE.out.c0
            have g1 := HRE.out.g1
            have hmk2 : ∀ w, (Instr.makeSlice 92 (.int .i64 ((N : Int) + (C.length : Int))) (.int .i64 ((N : Int) + (C.length : Int)))).run Tryd.prog w = .ok (.slice (some ⟨w.heap.size, 0, none⟩) (N + C.length) (N + C.length)) (w.alloc (.cells (madeCells #[.bool false] (N + C.length)) 4)) := fun w => by
              have := run_make_row' (P := Tryd.prog) 92 4 (.bool false) 1 Tryd.underlying92 Tryd.infoBool rfl .i64 .i64 (N + C.length) (by omega) (by omega) w
              rw [Int.natCast_add] at this
              exact this
            have hwr : IntKind.i64.wrap ((N : Int) + (C.length : Int)) = (N : Int) + (C.length : Int) := IntWalk.i64_in _ (by omega)
            go_upto_region 22 with fail
            go_cut [10] (fun v w' => v = .slice (some ⟨wm.heap.size, 0, none⟩) (N + C.length) (N + C.length) ∧ Hid (NR wm wm.heap.size (N + C.length) (nd0 vs []) w'))
            case first =>
              go_wp2_with fail
              go_meet
              exact ⟨rfl, hid ⟨bel_alloc _ _, (World.rowIs_made wm (.bool false) (N + C.length) 4).congr fun _ _ => rfl, Nat.le_refl _⟩⟩
            case rest =>
              obtain ⟨rfl, HN0⟩ := hcut
              rename_i hK
              refine hK _ _ ?_
              clear hK
              show Code.wp Tryd.prog (dropSeq 7 rrBody) _ _ _
              rw [← rr7]
              refine rr_need (dropSeq 10 rrBody) w wm _ _ gR N cv co cC c C o vs av ao aC HRE HN0 HOE HFv HCI hC1 hC2 hmost (by rw [hlen]) hN24 hc6 ho6 ho1 ho2 ?_ _ _ _ _ _ _ _ _ _ _ _ _ _ _ _ _ _ _ _ _ _ _ _ _ _ _ _ _ _ _ _ _ _ _ _ _ _ _ _ _ _ _ _ _ _ _ _ _ _ _ _ _ _ _ _ _ _ _ _ _ _ _ _ _ _ _ _ _ _ _ _ _ _ _ _ _ _ _ _ _ _ _ _ _ _ _ _ _ _ _ _ _ _ _ _ _ _ _ _ _ _ _ _ _ _ _ _ _ _ _ _ _ _ _ _ _ _ _ _ _ _ _ _ _ _ _ _ _ _ _ _ _ _ _ _ _ _ _ _ _ _ _ _ _ _ _ _ _ _ _ _ _ _ _ _ _ _ _ _ _ _ _ _ _ _ _ _ _ _ _ _ _ _ _ _ _ _ _ _ _ _ _ _ _ _ _ _ _ _ _ _ _ _ _ _ _ _ _ _ _ _ _ _ _ _ _ _ _ _ _ _ _ _ _ _ _ _ _ _ _ _ _ _ _ _ _ _ _ _ _ _ _ _ _ _ _ _ _ _ _ _ _ _ _ _ _ _ _ _ _ _ _ _ _ _ _ _ _ _ _ _ _ _ _ _ _ _ _ _ _ _ _ _ _ _ _ _ _ _ _ _ _ _
              intro w9
              intros
              rename_i HN9
              show Code.wp Tryd.prog (dropSeq 10 rrBody) _ _ _
              rw [← rr10]
              refine rr_place (dropSeq 13 rrBody) w wm w9 gR _ N cv co cC c C o vs _ av ao aC HRE HCI HN9 hC1 hC2 hmost hN24 hc6 ?_ _ _ _ _ _ _ _ _ _ _ _ _ _ _ _ _ _ _ _ _ _ _ _ _ _ _ _ _ _ _ _ _ _ _ _ _ _ _ _ _ _ _ _ _ _ _ _ _ _ _ _ _ _ _ _ _ _ _ _ _ _ _ _ _ _ _ _ _ _ _ _ _ _ _ _ _ _ _ _ _ _ _ _ _ _ _ _ _ _ _ _ _ _ _ _ _ _ _ _ _ _ _ _ _ _ _ _ _ _ _ _ _ _ _ _ _ _ _ _ _ _ _ _ _ _ _ _ _ _ _ _ _ _ _ _ _ _ _ _ _ _ _ _ _ _ _ _ _ _ _ _ _ _ _ _ _ _ _ _ _ _ _ _ _ _ _ _ _ _ _ _ _ _ _ _ _ _ _ _ _ _ _ _ _ _ _ _ _ _ _ _ _ _ _ _ _ _ _ _ _ _ _ _ _ _ _ _ _ _ _ _ _ _ _ _ _ _ _ _ _ _ _ _ _ _ _ _ _ _ _ _ _ _ _ _ _ _ _ _ _ _ _ _ _ _ _ _ _ _ _ _ _ _ _ _ _ _ _ _ _ _ _ _ _ _ _ _ _ _ _ _ _ _ _ _ _ _ _ _ _ _
              intro PB gO vL w10
              intros
              rename_i HP10
              show Code.wp Tryd.prog (dropSeq 13 rrBody) _ _ _
              rw [← rr13]
              have HR9 := hid (HRE.out.below HN9.out.bel)
              have hpl := pack_len N C (ndAll N C vs o) C.length
              refine rr_const (dropSeq 16 rrBody) w w9 w10 gR PB gO N (N + C.length) cv co cC c C _ o vs _ vL av ao aC (hid (HR9.out.below HP10.out.bel)) HP10 (by omega) hN24 ?_ _ _ _ _ _ _ _ _ _ _ _ _ _ _ _ _ _ _ _ _ _ _ _ _ _ _ _ _ _ _ _ _ _ _ _ _ _ _ _ _ _ _ _ _ _ _ _ _ _ _ _ _ _ _ _ _ _ _ _ _ _ _ _ _ _ _ _ _ _ _ _ _ _ _ _ _ _ _ _ _ _ _ _ _ _ _ _ _ _ _ _ _ _ _ _ _ _ _ _ _ _ _ _ _ _ _ _ _ _ _ _ _ _ _ _ _ _ _ _ _ _ _ _ _ _ _ _ _ _ _ _ _ _ _ _ _ _ _ _ _ _ _ _ _ _ _ _ _ _ _ _ _ _ _ _ _ _ _ _ _ _ _ _ _ _ _ _ _ _ _ _ _ _ _ _ _ _ _ _ _ _ _ _ _ _ _ _ _ _ _ _ _ _ _ _ _ _ _ _ _ _ _ _ _ _ _ _ _ _ _ _ _ _ _ _ _ _ _ _ _ _ _ _ _ _ _ _ _ _ _ _ _ _ _ _ _ _ _ _ _ _ _ _ _ _ _ _ _ _ _ _ _ _ _ _ _ _ _ _ _ _ _ _ _ _ _ _ _ _ _ _ _ _ _ _ _ _ _ _ _
              intro vL' w11
              intros
              rename_i HP11 _
              refine rr_end w w9 w11 gR PB gO N (packS N C (ndAll N C vs o) C.length).1.length cv co cC c C _ o vs _ vL' av ao aC HR9 HP11 (hid (HBm.out.trans (HN9.out.bel.mono HBm.out.size))) (by have := HS2.out; have := HP.out.bel.size; have := HN9.out.bel.size; omega) HOE HFv (by rw [hlen]) (by rw [List.length_append, constL_len]) (by rw [List.length_append, constL_len]; split <;> split <;> omega) (by omega) hN24 hc6 hmost ho6 ho1 ho2 (hid ?_) _ _ _ _ _ _ _ _ _ _ _ _ _ _ _ _ _ _ _ _ _ _ _ _ _ _ _ _ _ _ _ _ _ _ _ _ _ _ _ _ _ _ _ _ _ _ _ _ _ _ _ _ _ _ _ _ _ _ _ _ _ _ _ _ _ _ _ _ _ _ _ _ _ _ _ _ _ _ _ _ _ _ _ _ _ _ _ _ _ _ _ _ _ _ _ _ _ _ _ _ _ _ _ _ _ _ _ _ _ _ _ _ _ _ _ _ _ _ _ _ _ _ _ _ _ _ _ _ _ _ _ _ _ _ _ _ _ _ _ _ _ _ _ _ _ _ _ _ _ _ _ _ _ _ _ _ _ _ _ _ _ _ _ _ _ _ _ _ _ _ _ _ _ _ _ _ _ _ _ _ _ _ _ _ _ _ _ _ _ _ _ _ _ _ _ _ _ _ _ _ _ _ _ _ _ _ _ _ _ _ _ _ _ _ _ _ _ _ _ _ _ _ _ _ _ _ _ _ _ _ _ _ _ _ _ _ _ _ _ _ _ _ _ _ _ _ _ _ _ _ _ _ _ _ _ _ _ _ _ _ _ _ _ _ _ _ _ _ _ _ _ _ _ _ _ _ _ _ _ _ _
              intro e w' h
              refine HPost.out e w' ?_
              rw [HG1.out, HG2.out]
              exact h
  · have hE2 : (progErr n c o != 0) = true := by simpa using he
    have HPost := hid (show ∀ e w', e = .returned (.tuple #[.agg #[.int .i64 0, .slice none 0 0, .slice none 0 0], .int .i64 1]) → Below w.heap.size w w' → RPost n c o w e w' from fun e w' h hb => by
      unfold RPost redI redE redN redP
      rw [if_neg he, if_neg he, if_neg he, if_neg he]
      exact ⟨_, _, h, World.ownsRow_nil _ _ _ _, World.ownsRow_nil _ _ _ _, hb⟩)
    clear he
    generalize hE : progErr n c o = E at *
    clear hE
    go_enter Tryd.func15, Tryd.ntmps15
    go_upto_region 1 with fail
    obtain ⟨w1, hw1⟩ : ∃ w1, (w.alloc (.cells #[.int .i64 n, .slice ac c.length cc, .slice ao o.length co] 25)).alloc (.cells #[.int .i64 0, .slice none 0 0, .slice none 0 0] 25) = w1 := ⟨_, rfl⟩
    obtain ⟨hb1, k1, k2, hs1⟩ := two_lay hw1
    rw [hw1]
    have c0 := blk_cell (j := 0) k1 rfl
    have c1 := blk_cell (j := 1) k1 rfl
    have c2 := blk_cell (j := 2) k1 rfl
    have HB1 := hid hb1
    have HK := hid k2
    have HS1 := hid hs1
    clear hw1 k1 k2 hb1 hs1
    go_upto_region 2 with (go_at_call 17; refine (HCk.out _ (HC.out.below HB1.out) (HO.out.below HB1.out)).mono ?_; rintro e w2 ⟨rfl, hb2⟩)
    have HB2 := hid (bel_step HB1.out hb2)
    have k2 := (hb2.block (w.heap.size + 1) (by have := HS1.out; omega)).trans HK.out
    have r0 := blk_cell (j := 0) k2 rfl
    have r1 := blk_cell (j := 1) k2 rfl
    have r2 := blk_cell (j := 2) k2 rfl
    have f0 := blk_frozen (j := 0) k2
    have f1 := blk_frozen (j := 1) k2
    have f2 := blk_frozen (j := 2) k2
    clear hb2 HB1 HCk HS1 HK c0 c1 c2 k2
    go_wp2
    refine bodyPost_ret (v := .tuple #[.agg #[.int .i64 0, .slice none 0 0, .slice none 0 0], .int .i64 1]) ?_ rfl (HPost.out _ _ rfl ?_)
    · simp [results, Tryd.results15, go_sem, r0, r1, r2]
    · exact ((HB2.out.setCell (by show w.heap.size ≤ w.heap.size + 1; omega) _).setCell (by show w.heap.size ≤ w.heap.size + 1; omega) _).setCell (by show w.heap.size ≤ w.heap.size + 1; omega) _
end Go.Proofs.YtgfeknjhkciooaaDoor
