/-
  The law ProgramBits: the walk of its function.
  No condition beyond the code and the outputs lying in slices.
-/
import Derived.Test.YtgfeknjhkciooaaDoorBitsM
import Derived.Test.YtgfeknjhkciooaaDoorReduces
namespace Go.Proofs.YtgfeknjhkciooaaDoor
open Go.RowKit Go.Deep
set_option linter.unusedVariables false

/-- Two boxes with programs. -/
structure TwoP (w : World) (g5 g6 : Nat) (n : Int) (a1 a2 b1 b2 : Value) : Prop where
  h5 : w.heap[g5]? = some (.cells #[.int .i64 n, a1, a2] 25 (0, 0))
  h6 : w.heap[g6]? = some (.cells #[.int .i64 n, b1, b2] 25 (0, 0))
  ne : g5 ≠ g6
theorem bitS_get (l : List Bool) (k : Nat) (h : k < (bitS l).size) : (bitS l)[k] = bitC (l.getD k false) := by
  have hk : k < l.length := by rwa [bitS_size] at h
  have h1 : (bitS l)[k] = (bitS l).data.toList[k]'(by rw [bitS_list, List.length_map]; exact hk) := by simp [ByteArray.getElem_eq_getElem_data]
  rw [h1]
  simp only [bitS_list, List.getElem_map]
  rw [List.getD_eq_getElem?_getD, List.getElem?_eq_getElem hk]
  rfl
/-- The three letters that the law compares. -/
theorem bits_three (V : List Bool) (m k : Nat) (hm : V.length = m) (hk : k < m) :
    (∀ h, (bitS V)[k]'h = bitC (V.getD k false)) ∧ (∀ h, (bitS (V.map (!·)))[k]'h = bitC (!V.getD k false)) ∧ (∀ h, (bitS V.reverse)[m - 1 - k]'h = bitC (V.getD k false)) := by
  refine ⟨fun h => bitS_get _ _ h, fun h => ?_, fun h => ?_⟩
  · rw [bitS_get]
    congr 1
    rw [List.getD_eq_getElem?_getD, List.getElem?_map, List.getElem?_eq_getElem (by omega), List.getD_eq_getElem?_getD, List.getElem?_eq_getElem (by omega)]
    rfl
  · rw [bitS_get]
    congr 1
    rw [List.getD_eq_getElem?_getD, List.getElem?_reverse (by omega), show V.length - 1 - (m - 1 - k) = k by omega, List.getD_eq_getElem?_getD]
theorem cell_set_ne {W : World} {k b i j : Nat} {v u : Value} (h : W.cell? ⟨k, j, none⟩ = some v) (hne : k ≠ b) : (W.setCell ⟨b, i, none⟩ u).cell? ⟨k, j, none⟩ = some v := by
  rw [World.cell?_of_block (Below.heap_setCell _ _ _ _ hne)]; exact h
theorem two_blk (w : World) (o1 o2 : Obj) : ((w.alloc o1).alloc o2).drew.heap[w.heap.size]? = some o1 ∧ ((w.alloc o1).alloc o2).drew.heap[w.heap.size + 1]? = some o2 ∧ Below w.heap.size w ((w.alloc o1).alloc o2).drew := by
  refine ⟨?_, ?_, ((bel_alloc _ _).alloc (by simp) _).drew⟩
  · show ((w.alloc o1).alloc o2).heap[w.heap.size]? = some o1
    rw [Below.heap_alloc _ _ _ (by simp)]; exact heap_alloc_new w _
  · show ((w.alloc o1).alloc o2).heap[w.heap.size + 1]? = some o2
    have := heap_alloc_new (w.alloc o1) o2; rwa [World.size_alloc] at this
theorem two_first {n : Int} {a1 a2 : Value} (w : World) : ∃ g5 g6, Value.pointer (some ⟨w.heap.size, 0, none⟩) = .pointer (some ⟨g5, 0, none⟩) ∧ Value.pointer (some ⟨w.heap.size + 1, 0, none⟩) = .pointer (some ⟨g6, 0, none⟩) ∧ w.heap.size ≤ g5 ∧ w.heap.size ≤ g6 ∧
    TwoP ((w.alloc (.cells #[.int .i64 n, a1, a2] 25)).alloc (.cells #[.int .i64 n, a1, a2] 25)).drew g5 g6 n a1 a2 a1 a2 ∧ Below w.heap.size w ((w.alloc (.cells #[.int .i64 n, a1, a2] 25)).alloc (.cells #[.int .i64 n, a1, a2] 25)).drew :=
  let h := two_blk w (.cells #[.int .i64 n, a1, a2] 25) (.cells #[.int .i64 n, a1, a2] 25)
  ⟨_, _, rfl, rfl, Nat.le_refl _, by omega, ⟨h.1, h.2.1, by omega⟩, h.2.2⟩
theorem two_second {n : Int} {a1 a2 : Value} (w : World) : ∃ g5 g6, Value.pointer (some ⟨w.heap.size + 1, 0, none⟩) = .pointer (some ⟨g5, 0, none⟩) ∧ Value.pointer (some ⟨w.heap.size, 0, none⟩) = .pointer (some ⟨g6, 0, none⟩) ∧ w.heap.size ≤ g5 ∧ w.heap.size ≤ g6 ∧
    TwoP ((w.alloc (.cells #[.int .i64 n, a1, a2] 25)).alloc (.cells #[.int .i64 n, a1, a2] 25)).drew g5 g6 n a1 a2 a1 a2 ∧ Below w.heap.size w ((w.alloc (.cells #[.int .i64 n, a1, a2] 25)).alloc (.cells #[.int .i64 n, a1, a2] 25)).drew :=
  let h := two_blk w (.cells #[.int .i64 n, a1, a2] 25) (.cells #[.int .i64 n, a1, a2] 25)
  ⟨_, _, rfl, rfl, by omega, Nat.le_refl _, ⟨h.2.1, h.1, by omega⟩, h.2.2⟩
set_option maxRecDepth 100000 in
set_option maxHeartbeats 4000000 in
theorem programBits_any (n : Int) (vc vo : Value) (c : List Ins) (o : List Int) (a : Int) (w : World) (hc : Sl 3 w vc c.length (icells c)) (ho : Sl 1 w vo o.length (ints o)) (ha0 : 0 ≤ a) (ha1 : a ≤ 4294967295) :
    Calls Tryd.prog 5 #[.agg #[.int .i64 n, vc, vo], .int .u32 a] w fun e w' => e = .returned (.bool true) ∧ Below w.heap.size w w' := by
  have HC := hid hc
  have HO := hid ho
  have HFi := hid (fun X h1 h2 => fine_any n vc vo c o X h1 h2)
  obtain ⟨ac, cc, rfl, _, hc1, hc2, hc3⟩ := hc
  obtain ⟨ao, co, rfl, _, ho1, ho2, ho3⟩ := ho
  clear hc3 ho3
  cases hF : fineB n c o
  · rw [hF] at HFi
    clear hF
    go_enter Tryd.func5, Tryd.ntmps5
    go_upto_region 1 with fail
    obtain ⟨w0, hw0⟩ : ∃ w0, w.alloc (.cells #[.int .i64 n, .slice ac c.length cc, .slice ao o.length co] 25) = w0 := ⟨_, rfl⟩
    obtain ⟨hb0, c0, c1, c2⟩ := boxP hw0
    rw [hw0]
    have HB0 := hid hb0
    clear hw0 hb0
    go_wp2_with (first
      | (go_at_call 19; refine (HFi.out _ (HC.out.below HB0.out) (HO.out.below HB0.out)).mono ?_; rintro e w1 ⟨rfl, hb1⟩)
      | (go_at_call 11; refine (awake_any _).mono ?_; rintro e w2 ⟨rfl, hb2⟩))
    go_ret
    exact ⟨rfl, bel_step (bel_step HB0.out hb1) hb2⟩
  · rw [hF] at HFi
    obtain ⟨hE, hcl, hol⟩ := fineB_true hF
    clear hF
    obtain ⟨N, rfl, hN, _, hOut⟩ := progErr_parts hE
    have L := hid (bitsLaw (l := inL a N) hE hcl hol (inL_len a N))
    clear hE
    have HClI := hid (fun X h => cloneIns_any (.slice ac c.length cc) c X h (by omega))
    have HClO := hid (fun X h => cloneInt_any (.slice ao o.length co) o X h (by omega))
    go_enter Tryd.func5, Tryd.ntmps5
    go_upto_region 1 with fail
    obtain ⟨w0, hw0⟩ : ∃ w0, w.alloc (.cells #[.int .i64 N, .slice ac c.length cc, .slice ao o.length co] 25) = w0 := ⟨_, rfl⟩
    obtain ⟨hb0, c0, c1, c2⟩ := boxP hw0
    rw [hw0]
    have HB0 := hid hb0
    have HS0 := hid (show w0.heap.size = w.heap.size + 1 by rw [← hw0]; simp)
    clear hw0 hb0
    go_upto_region 3 with (first
      | (go_at_call 19; refine (HFi.out _ (HC.out.below HB0.out) (HO.out.below HB0.out)).mono ?_; rintro e w1 ⟨rfl, hb1⟩; have c0 := keeps hb1 c0; have c1 := keeps hb1 c1; have c2 := keeps hb1 c2; have HB1 := hid (bel_step HB0.out hb1)))
    have HC0 := hid (And.intro c0 (And.intro c1 c2))
    go_cut [5, 6] (fun u5 u6 w' => ∃ g5 g6, u5 = .pointer (some ⟨g5, 0, none⟩) ∧ u6 = .pointer (some ⟨g6, 0, none⟩) ∧ w1.heap.size ≤ g5 ∧ w1.heap.size ≤ g6 ∧ TwoP w' g5 g6 N (.slice ac c.length cc) (.slice ao o.length co) (.slice ac c.length cc) (.slice ao o.length co) ∧ Below w1.heap.size w1 w')
    case first =>
      have hlw : w.heap.size < w1.heap.size := by have := hb1.size; have := HS0.out; omega
      have hne1 := World.new_ne w1 ⟨w.heap.size, 0, none⟩ c0
      have hne2 := World.new_ne w1 ⟨w.heap.size, 1, none⟩ c1
      have hne3 := World.new_ne w1 ⟨w.heap.size, 2, none⟩ c2
      go_region_held3 (fun w' => w'.cell? ⟨w.heap.size, 0, none⟩ = some (.int .i64 N) ∧ w'.cell? ⟨w.heap.size, 1, none⟩ = some (.slice ac c.length cc) ∧ w'.cell? ⟨w.heap.size, 2, none⟩ = some (.slice ao o.length co))
        (first | exact ⟨c0, c1, c2⟩ | exact ⟨keeps (bel_alloc _ _) c0, keeps (bel_alloc _ _) c1, keeps (bel_alloc _ _) c2⟩ | go_keep)
        (first | fail)
      all_goals
        go_wp2_with fail
        go_meet
        first | exact two_first w1 | exact two_second w1
    case rest =>
      obtain ⟨g5, g6, rfl, rfl, hl5, hl6, hT, hb2⟩ := hcut
      have hlw : w.heap.size < w1.heap.size := by have := hb1.size; have := HS0.out; omega
      have hg5 := (Array.getElem?_eq_some_iff.1 hT.h5).1
      have hg6 := (Array.getElem?_eq_some_iff.1 hT.h6).1
      have c0 := keeps hb2 c0
      have c1 := keeps hb2 c1
      have c2 := keeps hb2 c2
      rename World => w2
      have HT := hid hT
      have HB12 := hid hb2
      have HB2 := hid (bel_step HB1.out hb2)
      have HL := hid (show w.heap.size ≠ g5 ∧ w.heap.size ≠ g6 ∧ w1.heap.size ≤ g5 ∧ w1.heap.size ≤ g6 ∧ g5 < w2.heap.size ∧ g6 < w2.heap.size by omega)
      have HLw := hid hlw
      have HC1 := HC0
      clear hT hb2 hl5 hl6 hg5 hg6 hlw hb1 HC0
      go_upto_region 4 with fail
      go_region_held3 (fun w' => w'.cell? ⟨w.heap.size, 1, none⟩ = some (.slice ac c.length cc) ∧ w'.cell? ⟨w.heap.size, 2, none⟩ = some (.slice ao o.length co))
        (first | exact ⟨c1, c2⟩ | exact ⟨cell_set_ne c1 hnw5, cell_set_ne c2 hnw5⟩ | exact ⟨cell_set_ne (cell_set_ne c1 hnw5) hnw5, cell_set_ne (cell_set_ne c2 hnw5) hnw5⟩ | exact ⟨cell_set_ne (cell_set_ne (cell_set_ne c1 hnw5) hnw5) hnw6, cell_set_ne (cell_set_ne (cell_set_ne c2 hnw5) hnw5) hnw6⟩ | go_keep)
        (first
          | (go_at_call 21; refine (HClI.out _ (HC.out.below HB2.out.drew)).mono ?_; rintro e w4 ⟨v4, rfl, how4, hb4⟩; obtain ⟨a4, p4, rfl⟩ := own_slice how4; have c1 := keeps hb4 c1; have c2 := keeps hb4 c2; have HO4 := hid how4; have HB4 := hid hb4; clear how4 hb4)
          | (go_at_call 22; refine (HClO.out _ (HO.out.below (HB2.out.drew.trans (HB4.out.mono HB2.out.size)))).mono ?_; rintro e w6 ⟨v6, rfl, how6, hb6⟩; obtain ⟨a6, p6, rfl⟩ := own_slice how6; have c1 := keeps hb6 c1; have c2 := keeps hb6 c2; have HO6 := hid how6; have HB6 := hid hb6; have k5 := (hb6.block g5 (by have := HL.out; have := HB4.out.size; simp at this; omega)).trans ((HB4.out.block g5 HL.out.2.2.2.2.1).trans HT.out.h5); have k6 := (hb6.block g6 (by have := HL.out; have := HB4.out.size; simp at this; omega)).trans ((HB4.out.block g6 HL.out.2.2.2.2.2).trans HT.out.h6); have HK6 := hid (And.intro k5 k6); have d51 := blk_cell (j := 1) k5 rfl; have d52 := blk_cell (j := 2) k5 rfl; have d62 := blk_cell (j := 2) k6 rfl; have f51 := blk_frozen (j := 1) k5; have f52 := blk_frozen (j := 2) k5; have f62 := blk_frozen (j := 2) k6; have hne56 := HT.out.ne; have hnw5 := HL.out.1; have hnw6 := HL.out.2.1; clear how6 hb6 k5 k6))
      obtain ⟨w7, hw7⟩ : ∃ w7, ((w6.setCell ⟨g5, 1, none⟩ (.slice a4 c.length p4)).setCell ⟨g5, 2, none⟩ (.slice none 0 0)).setCell ⟨g6, 2, none⟩ (.slice a6 o.length p6) = w7 := ⟨_, rfl⟩
      have hk5 : w7.heap[g5]? = some (.cells #[.int .i64 N, .slice a4 c.length p4, .slice none 0 0] 25 (0, 0)) := by
        rw [← hw7, Below.heap_setCell _ _ _ _ hne56]; simp [World.setCell, Array.getElem?_modify, HK6.out.1]
      have hk6 : w7.heap[g6]? = some (.cells #[.int .i64 N, .slice ac c.length cc, .slice a6 o.length p6] 25 (0, 0)) := by
        have e : ((w6.setCell ⟨g5, 1, none⟩ (.slice a4 c.length p4)).setCell ⟨g5, 2, none⟩ (.slice none 0 0)).heap[g6]? = w6.heap[g6]? := (Below.heap_setCell _ _ _ _ (Ne.symm hne56)).trans (Below.heap_setCell _ _ _ _ (Ne.symm hne56))
        rw [← hw7]; simp [World.setCell, Array.getElem?_modify, hne56, HK6.out.2]
      have hoth : ∀ k, k ≠ g5 → k ≠ g6 → w7.heap[k]? = w6.heap[k]? := fun k h1 h2 => by
        rw [← hw7]; exact (Below.heap_setCell _ _ _ _ h2).trans ((Below.heap_setCell _ _ _ _ h1).trans (Below.heap_setCell _ _ _ _ h1))
      have hsz : w7.heap.size = w6.heap.size := by rw [← hw7]; simp
      have HS46 := hid (show w2.heap.size ≤ w4.heap.size ∧ w4.heap.size ≤ w6.heap.size from ⟨by have := HB4.out.size; simpa using this, HB6.out.size⟩)
      have hB7 : Below w1.heap.size w1 w7 := ⟨by rw [← hw7]; exact HB6.out.os.trans (HB4.out.os.trans HB12.out.os), by rw [← hw7]; exact HB6.out.tape.trans (HB4.out.tape.trans HB12.out.tape), by rw [← hw7]; exact HB6.out.output.trans (HB4.out.output.trans HB12.out.output), by rw [hsz]; have := HS46.out; have := HB12.out.size; omega,
        fun k hk => (hoth k (by have := HL.out; omega) (by have := HL.out; omega)).trans ((HB6.out.block k (by have := HS46.out; have := HB12.out.size; omega)).trans ((HB4.out.block k (by have := HB12.out.size; simp; omega)).trans (HB12.out.block k hk)))⟩
      have hO4 : w7.ownsRow w2.heap.size 41 3 (.slice a4 c.length p4) c.length (icells c) := by
        have h1 : w4.ownsRow w2.heap.size 41 3 (.slice a4 c.length p4) c.length (icells c) := HO4.out
        have h2 := own_set (own_set (own_below h1 HB6.out) (a := ⟨g5, 1, none⟩) HK6.out.1 (by decide) (.slice a4 c.length p4)) (a := ⟨g5, 2, none⟩) (cs := #[.int .i64 N, .slice a4 c.length p4, .slice ao o.length co]) (T := 25) (fl := (0, 0)) (by simp [World.setCell, Array.getElem?_modify, HK6.out.1]) (by decide) (.slice none 0 0)
        have h3 := own_set h2 (a := ⟨g6, 2, none⟩) (cs := #[.int .i64 N, .slice ac c.length cc, .slice ao o.length co]) (T := 25) (fl := (0, 0)) (((Below.heap_setCell _ _ _ _ (Ne.symm hne56)).trans (Below.heap_setCell _ _ _ _ (Ne.symm hne56))).trans HK6.out.2) (by decide) (.slice a6 o.length p6)
        rw [hw7] at h3
        exact h3
      have hO6 : w7.ownsRow w2.heap.size 3 1 (.slice a6 o.length p6) o.length (ints o) := by
        have h1 := own_base HO6.out HS46.out.1
        have h2 := own_set (own_set h1 (a := ⟨g5, 1, none⟩) HK6.out.1 (by decide) (.slice a4 c.length p4)) (a := ⟨g5, 2, none⟩) (cs := #[.int .i64 N, .slice a4 c.length p4, .slice ao o.length co]) (T := 25) (fl := (0, 0)) (by simp [World.setCell, Array.getElem?_modify, HK6.out.1]) (by decide) (.slice none 0 0)
        have h3 := own_set h2 (a := ⟨g6, 2, none⟩) (cs := #[.int .i64 N, .slice ac c.length cc, .slice ao o.length co]) (T := 25) (fl := (0, 0)) (((Below.heap_setCell _ _ _ _ (Ne.symm hne56)).trans (Below.heap_setCell _ _ _ _ (Ne.symm hne56))).trans HK6.out.2) (by decide) (.slice a6 o.length p6)
        rw [hw7] at h3
        exact h3
      rw [hw7]
      have HLB := hid (show LB w7 w2.heap.size g5 N c o 0 0 (.slice a4 c.length p4) (.slice none 0 0) w7 from ⟨hk5, by rw [List.take_zero]; show w7.ownsRow _ _ _ _ (c.length + 0) (icells (c ++ [])); rw [List.append_nil]; exact hO4, World.ownsRow_nil _ _ _ _, Nat.le_refl _, rfl, rfl, rfl, fun _ _ _ _ => rfl⟩)
      have HM := hid (And.intro hk6 hO6)
      have c0 := (hB7.cell (p := ⟨w.heap.size, 0, none⟩) HLw.out).trans HC1.out.1
      have c1 := (hB7.cell (p := ⟨w.heap.size, 1, none⟩) HLw.out).trans HC1.out.2.1
      have c2 := (hB7.cell (p := ⟨w.heap.size, 2, none⟩) HLw.out).trans HC1.out.2.2
      have HZ := hid (show w2.heap.size ≤ w7.heap.size by rw [hsz]; have := HS46.out; omega)
      have HB7 := hid (bel_step HB1.out hB7)
      clear hw7 hk5 hk6 hoth hsz hO4 hO6 hB7 d51 d52 d62 f51 f52 f62 HK6 HO4 HO6 HB4 HB6 HClI HClO
      go_wp2_with fail
      have HLw2 := hid (show w.heap.size < w2.heap.size by have := HLw.out; have := HB12.out.size; omega)
      have HL2 := hid (And.intro HL.out.2.2.2.2.1 HL.out.1)
      have C7 := hid (And.intro c0 (And.intro c1 c2))
      clear c0 c1 c2
      go_loopw [35] (fun i wr => ∃ k : Nat, k ≤ o.length ∧ i = .int .i64 k ∧ ∃ vq uq, LB w7 w2.heap.size g5 N c o k k vq uq wr) (fun i _ => o.length - (intOf i).toNat)
      case atStart => exact ⟨0, Nat.zero_le _, rfl, _, _, HLB.out⟩
      case round =>
        obtain ⟨k, hk, rfl, vq, uq, hLB⟩ := hrel
        have HLk := hid hLB
        obtain ⟨aq, pq, rfl⟩ := own_slice hLB.oc
        obtain ⟨au, pu, rfl⟩ := own_slice hLB.oo
        clear hLB HLB
        rename World => wr
        by_cases hlt : k < o.length
        · obtain ⟨x, hx⟩ := some_of_lt hlt
          have HTn := hid (show notL (o.take (k + 1)) = notL (o.take k) ++ [⟨5, x, 0⟩] by rw [take_snoc hx, notL_snoc])
          have HN := hid (show ints (notO (N + c.length) (k + 1)) = ints (notO (N + c.length) k) ++ [.int .i64 ((N : Int) + ((c.length : Int) + (k : Int)))] by rw [notO_succ]; simp [ints]; omega)
          have HBw := hid (HB7.out.trans (HLk.out.bel (A := w.heap.size) (by have := HLw2.out; omega) (by have := HL.out.2.2.1; have := HLw.out; omega) HZ.out))
          obtain ⟨bo, oo, rfl, e1⟩ := (HO.out.below HBw.out).cell (ints_get hx)
          clear hx
          have d0 := HLk.out.cell C7.out.1 HLw2.out HL2.out.2 HZ.out
          have k1 := blk_cell (j := 1) HLk.out.box rfl
          have k2 := blk_cell (j := 2) HLk.out.box rfl
          have hw1 : IntKind.i64.wrap ((N : Int) + ((c.length : Int) + (k : Int))) = (N : Int) + ((c.length : Int) + (k : Int)) := IntWalk.i64_in _ (by omega)
          go_upto_region 9 with (at_builtin; refine wpList_push wr rfl _ _ 23 rfl w7.heap.size 3 (.int .i64 0) 1 8 Tryd.underlying23 Tryd.infoInt8 rfl (by decide) (.slice au k pu) k (ints (notO (N + c.length) k)) rfl HLk.out.oo #[.int .i64 ((N : Int) + ((c.length : Int) + (k : Int)))] rfl (oneCell_int _ _) rfl (by unfold maxLen; omega) (by omega) HLk.out.sz ?_; intro gv capv w5 hown5 hg5 hb5; have kb := (hg5.block g5 (Array.getElem?_eq_some_iff.1 HLk.out.box).1 (fun e => by have := (own_block HLk.out.oo e.symm).1; have := HL2.out.1; have := HZ.out; omega)).trans HLk.out.box; have k1 := blk_cell (j := 1) kb rfl; have k2 := blk_cell (j := 2) kb rfl; have f2 := blk_frozen (j := 2) kb; have HLu := hid (HLk.out.pushU (uq' := .slice (some ⟨gv, 0, none⟩) (k + 1) capv) HL2.out.1 HZ.out hg5 (by rw [HN.out]; exact hown5)); clear hown5 hg5 hb5 kb)
          obtain ⟨wu, hwu⟩ : ∃ wu, w5.setCell ⟨g5, 2, none⟩ (.slice (some ⟨gv, 0, none⟩) (k + 1) capv) = wu := ⟨_, rfl⟩
          rw [hwu] at HLu ⊢
          clear hwu k1 k2 f2 d0 e1 hw1
          have k1 := blk_cell (j := 1) HLu.out.box rfl
          have hzu := HLu.out.sz
          go_upto_region 10 with (at_builtin; refine wpList_push wu rfl _ _ 22 rfl w2.heap.size 41 (.agg #[.int .i64 0, .int .i64 0, .int .i64 0]) 3 24 Tryd.underlying22 Tryd.infoInstr rfl (by decide) (.slice aq (c.length + k) pq) (c.length + k) (icells (c ++ notL (o.take k))) rfl HLu.out.oc #[.int .i64 5, .int .i64 x, .int .i64 0] rfl (by intro u hu; simp at hu; rcases hu with rfl | rfl | rfl <;> rfl) rfl (by unfold maxLen; omega) (by omega) (Nat.le_trans HZ.out HLu.out.sz) ?_; intro gq capq w9 hown9 hg9 hb9; have kb := (hg9.block g5 (Array.getElem?_eq_some_iff.1 HLu.out.box).1 (fun e => by have := (own_block HLu.out.oc e.symm).1; have := HL2.out.1; omega)).trans HLu.out.box; have k1 := blk_cell (j := 1) kb rfl; have f1 := blk_frozen (j := 1) kb; have HLc := hid (HLu.out.pushC (vq' := .slice (some ⟨gq, 0, none⟩) (c.length + k + 1) capq) HL2.out.1 HZ.out hg9 (by rw [HTn.out, ← List.append_assoc, icells_snoc]; exact hown9)); clear hown9 hg9 hb9 kb)
          go_wp2
          go_roundw
          case rel => exact ⟨k + 1, by omega, by go_num, _, _, HLc.out⟩
          case measure => simp [intOf]; omega
        · obtain rfl : k = o.length := by omega
          have HRv := hid (rev_any w2.heap.size (.slice a6 o.length p6) o wr (HLk.out.ownInt HL2.out.1 HM.out.2) (by omega))
          have k62 := blk_cell (j := 2) ((HLk.out.fr g6 (by have := HL.out; have := HZ.out; omega) (Ne.symm HT.out.ne) (.inl HL.out.2.2.2.2.2)).trans HM.out.1) rfl
          clear hlt hk
          go_upto_region 12 with (go_at_call 23; refine HRv.out.mono ?_; rintro e w8 ⟨rfl, how8, hg8⟩)
          have H3 := hid (HLk.out.three HL2.out.1 HL.out.2.2.2.2.2 HT.out.ne HL2.out.2 HLw2.out (by have := HL.out.2.2.1; have := HLw.out; omega) HZ.out HB7.out HM.out.1 C7.out.1 C7.out.2.1 C7.out.2.2 HM.out.2 how8 hg8)
          clear how8 hg8 k62 HRv HLk HM HT HL HL2 HLw HLw2 HB7 HB12 HB1 HB2 C7 HC1 HZ HS46
          have q0 := blk_cell (j := 0) H3.out.b5 rfl
          have q1 := blk_cell (j := 1) H3.out.b5 rfl
          have q2 := blk_cell (j := 2) H3.out.b5 rfl
          have r0 := blk_cell (j := 0) H3.out.b6 rfl
          have r1 := blk_cell (j := 1) H3.out.b6 rfl
          have r2 := blk_cell (j := 2) H3.out.b6 rfl
          have c0 := H3.out.c0
          have c1 := H3.out.c1
          have c2 := H3.out.c2
          have HIn := hid (fun vc' vo' X => inputs_any N a vc' vo' X hN ha0 ha1)
          obtain ⟨la, lb, lc, sa, sb, sc, lV⟩ := L.out
          have hsz : (bitS (inL a N)).size ≤ 9223372036854775807 := by rw [bitS_size, inL_len]; omega
          have HR1 := hid (fun X h1 h2 => prunTop_any N (.slice ac c.length cc) (.slice ao o.length co) c o (bitS (inL a N)) X h1 h2 hsz)
          have HR2 := hid (fun X h1 h2 => prunTop_any N (.slice aq (c.length + o.length) pq) (.slice au o.length pu) (c ++ notL o) (notO (N + c.length) o.length) (bitS (inL a N)) X h1 h2 hsz)
          have HR3 := hid (fun X h1 h2 => prunTop_any N (.slice ac c.length cc) (.slice a6 o.length p6) c o.reverse (bitS (inL a N)) X h1 h2 hsz)
          rw [la, sa] at HR1
          rw [lb, sb] at HR2
          rw [lc, sc] at HR3
          generalize poutsV (inL a N) c o = V at *
          generalize bitS (inL a N) = BS at *
          have HV := hid lV
          clear la lb lc sa sb sc hsz lV
          have hz1 : (bitS V).size = o.length := by rw [bitS_size, HV.out]
          have hz2 : (bitS (V.map (!·))).size = o.length := by rw [bitS_size, List.length_map, HV.out]
          have hz3 : (bitS V.reverse).size = o.length := by rw [bitS_size, List.length_reverse, HV.out]
          have hmax : ∀ ats ty, Builtin.max_ ats ty #[.int .i64 0, .int .i64 0, .int .i64 0] = pure (.int .i64 0) := fun _ _ => rfl
          go_upto_region 14 with (first
            | (go_at_call 20; refine (HIn.out _ _ _).mono ?_; rintro e w9 ⟨rfl, hb9⟩; have c0 := keeps hb9 c0; have c1 := keeps hb9 c1; have c2 := keeps hb9 c2; have q0 := keeps hb9 q0; have q1 := keeps hb9 q1; have q2 := keeps hb9 q2; have r0 := keeps hb9 r0; have r1 := keeps hb9 r1; have r2 := keeps hb9 r2; have HB9 := hid hb9; clear hb9)
            | (go_at_call 12; refine (HR1.out _ (HC.out.below (H3.out.bel.trans (HB9.out.mono H3.out.bel.size))) (HO.out.below (H3.out.bel.trans (HB9.out.mono H3.out.bel.size)))).mono ?_; rintro e wa ⟨rfl, hba⟩; have c0 := keeps hba c0; have c1 := keeps hba c1; have c2 := keeps hba c2; have q0 := keeps hba q0; have q1 := keeps hba q1; have q2 := keeps hba q2; have r0 := keeps hba r0; have r1 := keeps hba r1; have r2 := keeps hba r2; have HBa := hid (bel_step HB9.out hba); clear hba))
          go_upto_region 15 with (go_at_call 12; refine (HR2.out _ (H3.out.sq.below HBa.out) (H3.out.su.below HBa.out)).mono ?_; rintro e wb ⟨rfl, hbb⟩; have c0 := keeps hbb c0; have c1 := keeps hbb c1; have c2 := keeps hbb c2; have r0 := keeps hbb r0; have r1 := keeps hbb r1; have r2 := keeps hbb r2; have HBb := hid (bel_step HBa.out hbb); clear hbb)
          go_upto_region 16 with (go_at_call 12; refine (HR3.out _ (HC.out.below (H3.out.bel.trans (HBb.out.mono H3.out.bel.size))) (H3.out.sr.below HBb.out)).mono ?_; rintro e wd ⟨rfl, hbd⟩; have c2 := keeps hbd c2; have HBd := hid (bel_step HBb.out hbd); clear hbd)
          have HBd := hid (H3.out.bel.trans (HBd.out.mono H3.out.bel.size))
          clear HB9 HBa HBb HR1 HR2 HR3 HIn H3 c0 c1 q0 q1 q2 r0 r1 r2
          go_wp2_with fail
          clear c2 hmax
          have H3b := hid (fun k (hk : k < o.length) => bits_three V o.length k HV.out hk)
          generalize bitS V = SA at *
          generalize bitS (V.map (!·)) = SB at *
          generalize bitS V.reverse = SC at *
          go_loopw [111] (fun i wr => ∃ k : Nat, k ≤ o.length ∧ i = .int .i64 k ∧ Dr wd wr) (fun i _ => o.length - (intOf i).toNat)
          case atStart => exact ⟨0, Nat.zero_le _, rfl, Dr.refl _⟩
          case round =>
            obtain ⟨k, hk, rfl, hD⟩ := hrel
            have HD := hid hD
            clear hD
            rename World => wm
            by_cases hlt : k < o.length
            · have hk3 : (0 : Int) ≤ (k : Int) := by omega
              have hk4 : (k : Int) < (o.length : Int) := by omega
              have hw1 : IntKind.i64.wrap ((o.length : Int) - 1) = (o.length : Int) - 1 := IntWalk.i64_in _ (by omega)
              have hw2 : IntKind.i64.wrap ((o.length : Int) - 1 - (k : Int)) = (o.length : Int) - 1 - (k : Int) := IntWalk.i64_in _ (by omega)
              have hk5 : (0 : Int) ≤ (o.length : Int) - 1 - (k : Int) := by omega
              have hk6 : (o.length : Int) - 1 - (k : Int) < (o.length : Int) := by omega
              have hk7 : ((o.length : Int) - 1 - (k : Int)).toNat = o.length - 1 - k := by omega
              obtain ⟨t1, t2, t3⟩ := H3b.out k hlt
              cases hB : V.getD k false
              · rw [hB] at t1 t2 t3
                rw [show bitC false = 48 from rfl] at t1 t3
                rw [show bitC (!false) = 49 from rfl] at t2
                clear hB
                go_upto_region 21 with fail
                go_quiet (fail)
                clear hw1 hw2 hk5 hk6 hk7 hk3 hk4 t1 t2 t3
                go_wp2
                go_roundw
                case rel => exact ⟨k + 1, by omega, by go_num, HD.out.drewN _⟩
                case measure => simp [intOf]; omega
              · rw [hB] at t1 t2 t3
                rw [show bitC true = 49 from rfl] at t1 t3
                rw [show bitC (!true) = 48 from rfl] at t2
                clear hB
                go_upto_region 21 with fail
                go_quiet (fail)
                clear hw1 hw2 hk5 hk6 hk7 hk3 hk4 t1 t2 t3
                go_wp2
                go_roundw
                case rel => exact ⟨k + 1, by omega, by go_num, HD.out.drewN _⟩
                case measure => simp [intOf]; omega
            · go_wp2_with (go_at_call 11; refine (awake_any _).mono ?_; rintro e we ⟨rfl, hbe⟩)
              go_ret
              exact ⟨rfl, bel_step (HBd.out.trans (HD.out.below _)) hbe⟩
end Go.Proofs.YtgfeknjhkciooaaDoor
