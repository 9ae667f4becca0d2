/-
  The reference's reducer: negate, both.
  The code lies in a row that the caller owns; not longer than 100000.
-/
import Derived.Test.YtgfeknjhkciooaaDoorRfEmit
import Derived.Test.YtgfeknjhkciooaaDoorPrNot
namespace Go.Proofs.YtgfeknjhkciooaaDoor
open Go.RowKit Go.Deep
set_option linter.unusedVariables false

/-- What a step of the reference's reducer yields. -/
def EPost (B N : Nat) (w : World) (v : Value) (C : List Ins) (k : Int) (e : Ending) (w' : World) : Prop :=
  ∃ v', e = .returned (.tuple #[.agg #[.int .i64 N, v'], .int .i64 k]) ∧ w'.ownsRow B 41 3 v' C.length (icells C) ∧ w.grownBy w' v.ownBlock
theorem two_lay {w w3 : World} {o1 o2 : Obj} (h : (w.alloc o1).alloc o2 = w3) :
    Below w.heap.size w w3 ∧ w3.heap[w.heap.size]? = some o1 ∧ w3.heap[w.heap.size + 1]? = some o2 ∧ w3.heap.size = w.heap.size + 1 + 1 := by
  subst h
  refine ⟨(bel_alloc _ _).alloc (by simp) _, ?_, ?_, by simp⟩
  · rw [Below.heap_alloc _ _ _ (by simp)]; exact heap_alloc_new w _
  · have := heap_alloc_new (w.alloc o1) o2; rwa [World.size_alloc] at this
/-- The end: the result is stored into its box. -/
theorem fin_own {B N : Nat} {w W : World} {v v' : Value} {C : List Ins} {z : Nat} {cs : Array Value} {x y : Value} (ho : W.ownsRow B 41 3 v' C.length (icells C)) (hg : w.grownBy W v.ownBlock) (hz : w.heap.size ≤ z) (hk : W.heap[z]? = some (.cells cs 96 (0, 0))) :
    ((W.setCell ⟨z, 0, none⟩ x).setCell ⟨z, 1, none⟩ y).ownsRow B 41 3 v' C.length (icells C) ∧ w.grownBy ((W.setCell ⟨z, 0, none⟩ x).setCell ⟨z, 1, none⟩ y) v.ownBlock :=
  ⟨own_set2 ho hk (by decide) _ _ _ _, grown_set (grown_set hg hz _) hz _⟩
theorem own_grown_ne {w : World} {B : Nat} {v : Value} {n : Nat} {xs : List Value} (h : w.ownsRow B 41 3 v n xs) {z : Nat} {cs : Array Value} (hk : w.heap[z]? = some (.cells cs 96 (0, 0))) : some z ≠ v.ownBlock := fun e => by
  obtain ⟨_, cur, hc⟩ := own_block h e.symm
  rw [hk] at hc
  simp only [Option.some.injEq, Obj.cells.injEq] at hc
  exact absurd hc.2.1 (by decide)
set_option maxRecDepth 100000 in
set_option maxHeartbeats 4000000 in
theorem rneg_any (B N : Nat) (v : Value) (C : List Ins) (a : Int) (w : World) (h : w.ownsRow B 41 3 v C.length (icells C)) (hB : B ≤ w.heap.size) (hl : C.length ≤ 100000) (hN : N ≤ 24) (ha : -2 ≤ a) (ha2 : a < ((N + C.length : Nat) : Int)) :
    Calls Tryd.prog 48 #[.agg #[.int .i64 N, v], .int .i64 a] w (EPost B N w v (notC N C a) (notV N C a)) := by
  have HO := hid h
  have HB := hid hB
  obtain ⟨av, cv, rfl⟩ := own_slice h
  obtain ⟨_, _, e0, _, hcc1, hcc2, _⟩ := Sl.of_owns h
  simp only [Value.slice.injEq, true_and] at e0
  obtain ⟨rfl, rfl⟩ := e0
  have HEm := hid (fun X h1 h2 => remit_any B N (.slice av C.length cv) C 5 a 0 X h1 h2 hl hN)
  clear h hB
  by_cases a0 : a < 0
  · have HV := hid (show notV N C a = -3 - a by
      have : a = -2 ∨ a = -1 := by omega
      rcases this with rfl | rfl
      · rfl
      · rw [notV, if_neg (by decide), if_pos rfl]; rfl)
    have HC := hid (show notC N C a = C by
      have : a = -2 ∨ a = -1 := by omega
      rcases this with rfl | rfl
      · rfl
      · rw [notC, if_neg (by decide), if_pos rfl])
    have hw1 : IntKind.i64.wrap (-3 - a) = -3 - a := IntWalk.i64_in _ (by omega)
    go_enter Tryd.func48, Tryd.ntmps48
    go_upto_region 1 with fail
    obtain ⟨w3, hw3⟩ : ∃ w3, (w.alloc (.cells #[.int .i64 N, .slice av C.length cv] 96)).alloc (.cells #[.int .i64 0, .slice none 0 0] 96) = w3 := ⟨_, rfl⟩
    obtain ⟨hb3, k1, k2, hs3⟩ := two_lay hw3
    rw [hw3]
    have r0 := blk_cell (j := 0) k1 rfl
    have r1 := blk_cell (j := 1) k1 rfl
    have z0 := blk_cell (j := 0) k2 rfl
    have z1 := blk_cell (j := 1) k2 rfl
    have f0 := blk_frozen (j := 0) k2
    have f1 := blk_frozen (j := 1) k2
    have HK := hid k2
    have HB3 := hid hb3
    clear hw3 k1 k2 hb3 hs3
    go_wp2_with fail
    obtain ⟨h1, h2⟩ := fin_own (B := B) (N := N) (x := .int .i64 N) (y := .slice av C.length cv) (own_below HO.out HB3.out) (grown_of (row := (Value.slice av C.length cv).ownBlock) HB3.out (Nat.le_refl _)) (by omega : w.heap.size ≤ w.heap.size + 1) HK.out
    refine bodyPost_ret (v := .tuple #[.agg #[.int .i64 N, .slice av C.length cv], .int .i64 (-3 - a)]) ?_ rfl ⟨.slice av C.length cv, ?_, ?_, h2⟩
    · simp [results, Tryd.results48, go_sem, z0, z1]
    · rw [HV.out]
    · rw [HC.out]; exact h1
  · have a2 : a ≠ -2 := by omega
    have a1 : a ≠ -1 := by omega
    have e0 : decide (a < 0) = false := by simpa using a0
    by_cases hn : (N : Int) ≤ a
    · obtain ⟨x, hx⟩ := some_of_lt (l := C) (k := a.toNat - N) (by omega)
      obtain ⟨g, rfl, _, x0, x1, x2⟩ := RS.ins (N := N) (RB := 0) (MB := 0) HO.out hx
      have hgd : C.getD (a - N).toNat default = x := by rw [List.getD_eq_getElem?_getD, show (a - (N : Int)).toNat = a.toNat - N by omega, hx]; rfl
      have hw1 : IntKind.i64.wrap (a - (N : Int)) = a - (N : Int) := IntWalk.i64_in _ (by omega)
      have hw2 : 0 ≤ a - (N : Int) := by omega
      have hw3 : a - (N : Int) < (C.length : Int) := by omega
      have hdn : decide ((N : Int) ≤ a) = true := by simpa using hn
      have HXc := hid (And.intro x0 x1)
      by_cases h5' : x.op = 5
      · have HV := hid (show notV N C a = x.a by rw [notV, if_neg a2, if_neg a1, hgd, if_pos ⟨hn, h5'⟩])
        have HC := hid (show notC N C a = C by rw [notC, if_neg a2, if_neg a1, hgd, if_pos ⟨hn, h5'⟩])
        rw [h5'] at x0
        clear hgd h5' hx a1 a2 a0
        go_enter Tryd.func48, Tryd.ntmps48
        go_upto_region 1 with fail
        obtain ⟨w3, hw3⟩ : ∃ w3, (w.alloc (.cells #[.int .i64 N, .slice (some ⟨g, 0, none⟩) C.length cv] 96)).alloc (.cells #[.int .i64 0, .slice none 0 0] 96) = w3 := ⟨_, rfl⟩
        obtain ⟨hb3, k1, k2, hs3⟩ := two_lay hw3
        rw [hw3]
        have r0 := blk_cell (j := 0) k1 rfl
        have r1 := blk_cell (j := 1) k1 rfl
        have z0 := blk_cell (j := 0) k2 rfl
        have z1 := blk_cell (j := 1) k2 rfl
        have f0 := blk_frozen (j := 0) k2
        have f1 := blk_frozen (j := 1) k2
        have HK := hid k2
        have HB3 := hid hb3
        have HL3 := hid (show w.heap.size + 1 < w3.heap.size by omega)
        clear hw3 k1 k2 hb3 hs3
        have x0 := keeps HB3.out x0
        have x1 := keeps HB3.out x1
        go_upto_region 4 with fail
        have hgl : g < w.heap.size := World.block_lt_of_cell? _ _ HXc.out.1
        have hgne : g ≠ w.heap.size + 1 := by omega
        have x1s : ∀ i j u v', ((w3.setCell ⟨w.heap.size + 1, i, none⟩ u).setCell ⟨w.heap.size + 1, j, none⟩ v').cell? ⟨g, (a.toNat - N) * 3 + 1, none⟩ = some (.int .i64 x.a) := fun i j u v' => by
          rw [World.cell?_of_block (Below.heap_setCell _ _ _ _ hgne), World.cell?_of_block (Below.heap_setCell _ _ _ _ hgne)]
          exact x1
        go_region_held3 (fun w' => w'.cell? ⟨w.heap.size, 0, none⟩ = some (.int .i64 N) ∧ w'.cell? ⟨w.heap.size, 1, none⟩ = some (.slice (some ⟨g, 0, none⟩) C.length cv) ∧ w'.cell? ⟨g, (a.toNat - N) * 3 + 1, none⟩ = some (.int .i64 x.a))
          (first | exact ⟨r0, r1, x1⟩ | go_keep)
          (first | fail)
        all_goals
          go_wp2_with fail
          obtain ⟨h1, h2⟩ := fin_own (B := B) (N := N) (x := .int .i64 N) (y := .slice (some ⟨g, 0, none⟩) C.length cv) (own_below HO.out (below_drewN HB3.out 1)) (grown_of (row := (Value.slice (some ⟨g, 0, none⟩) C.length cv).ownBlock) (below_drewN HB3.out 1) (Nat.le_refl _)) (by omega : w.heap.size ≤ w.heap.size + 1) HK.out
          refine bodyPost_ret (v := .tuple #[.agg #[.int .i64 N, .slice (some ⟨g, 0, none⟩) C.length cv], .int .i64 x.a]) ?_ rfl ⟨.slice (some ⟨g, 0, none⟩) C.length cv, ?_, ?_, h2⟩
          · simp [results, Tryd.results48, go_sem, z0, z1]
          · rw [HV.out]
          · rw [HC.out]; exact h1
      · have hno : ¬ ((N : Int) ≤ a ∧ (C.getD (a - N).toNat default).op = 5) := fun h => h5' (by rw [← hgd]; exact h.2)
        have HV := hid (show notV N C a = putV N C ⟨5, a, 0⟩ by rw [notV, if_neg a2, if_neg a1, if_neg hno])
        have HC := hid (show notC N C a = putC C ⟨5, a, 0⟩ by rw [notC, if_neg a2, if_neg a1, if_neg hno])
        have e5 : (x.op == 5) = false := by simpa using h5'
        clear hgd h5' hx a1 a2 hno a0
        go_enter Tryd.func48, Tryd.ntmps48
        go_upto_region 1 with fail
        obtain ⟨w3, hw3⟩ : ∃ w3, (w.alloc (.cells #[.int .i64 N, .slice (some ⟨g, 0, none⟩) C.length cv] 96)).alloc (.cells #[.int .i64 0, .slice none 0 0] 96) = w3 := ⟨_, rfl⟩
        obtain ⟨hb3, k1, k2, hs3⟩ := two_lay hw3
        rw [hw3]
        have r0 := blk_cell (j := 0) k1 rfl
        have r1 := blk_cell (j := 1) k1 rfl
        have z0 := blk_cell (j := 0) k2 rfl
        have z1 := blk_cell (j := 1) k2 rfl
        have f0 := blk_frozen (j := 0) k2
        have f1 := blk_frozen (j := 1) k2
        have HK := hid k2
        have HB3 := hid hb3
        have HL3 := hid (show w.heap.size + 1 < w3.heap.size by omega)
        clear hw3 k1 k2 hb3 hs3
        have x0 := keeps HB3.out x0
        clear hw1 hw2 hw3
        go_wp2_with (go_at_call 92; refine (HEm.out _ (own_below HO.out (HB3.out)) (by have := HB.out; have := HL3.out; show B ≤ w3.heap.size; omega)).mono ?_; rintro e w5 ⟨v5, rfl, ho5, hg5⟩; obtain ⟨a5, c5, rfl⟩ := own_slice ho5; have k5 := (hg5.block (w.heap.size + 1) HL3.out (own_grown_ne (own_below HO.out (HB3.out)) HK.out)).trans HK.out; have z0 := blk_cell (j := 0) k5 rfl; have z1 := blk_cell (j := 1) k5 rfl; have f0 := blk_frozen (j := 0) k5; have f1 := blk_frozen (j := 1) k5; have HK5 := hid k5; have HO5 := hid ho5; have HG5 := hid (grown_trans (grown_of (row := (Value.slice (some ⟨g, 0, none⟩) C.length cv).ownBlock) (HB3.out) (Nat.le_refl _)) hg5); clear k5 ho5 hg5)
        obtain ⟨h1, h2⟩ := fin_own (B := B) (N := N) (x := .int .i64 N) (y := .slice a5 (putC C ⟨5, a, 0⟩).length c5) HO5.out HG5.out (by omega : w.heap.size ≤ w.heap.size + 1) HK5.out
        refine bodyPost_ret (v := .tuple #[.agg #[.int .i64 N, .slice a5 (putC C ⟨5, a, 0⟩).length c5], .int .i64 (putV N C ⟨5, a, 0⟩)]) ?_ rfl ⟨.slice a5 (putC C ⟨5, a, 0⟩).length c5, ?_, ?_, h2⟩
        · simp [results, Tryd.results48, go_sem, z0, z1]
        · rw [HV.out]
        · rw [HC.out]; exact h1
    · have hno : ¬ ((N : Int) ≤ a ∧ (C.getD (a - N).toNat default).op = 5) := fun h => hn h.1
      have HV := hid (show notV N C a = putV N C ⟨5, a, 0⟩ by rw [notV, if_neg a2, if_neg a1, if_neg hno])
      have HC := hid (show notC N C a = putC C ⟨5, a, 0⟩ by rw [notC, if_neg a2, if_neg a1, if_neg hno])
      have hd : decide ((N : Int) ≤ a) = false := by simpa using hn
      clear a1 a2 hno a0
      go_enter Tryd.func48, Tryd.ntmps48
      go_upto_region 1 with fail
      obtain ⟨w3, hw3⟩ : ∃ w3, (w.alloc (.cells #[.int .i64 N, .slice av C.length cv] 96)).alloc (.cells #[.int .i64 0, .slice none 0 0] 96) = w3 := ⟨_, rfl⟩
      obtain ⟨hb3, k1, k2, hs3⟩ := two_lay hw3
      rw [hw3]
      have r0 := blk_cell (j := 0) k1 rfl
      have r1 := blk_cell (j := 1) k1 rfl
      have z0 := blk_cell (j := 0) k2 rfl
      have z1 := blk_cell (j := 1) k2 rfl
      have f0 := blk_frozen (j := 0) k2
      have f1 := blk_frozen (j := 1) k2
      have HK := hid k2
      have HB3 := hid hb3
      have HL3 := hid (show w.heap.size + 1 < w3.heap.size by omega)
      clear hw3 k1 k2 hb3 hs3
      clear hd
      go_wp2_with (go_at_call 92; refine (HEm.out _ (own_below HO.out (HB3.out)) (by have := HB.out; have := HL3.out; show B ≤ w3.heap.size; omega)).mono ?_; rintro e w5 ⟨v5, rfl, ho5, hg5⟩; obtain ⟨a5, c5, rfl⟩ := own_slice ho5; have k5 := (hg5.block (w.heap.size + 1) HL3.out (own_grown_ne (own_below HO.out (HB3.out)) HK.out)).trans HK.out; have z0 := blk_cell (j := 0) k5 rfl; have z1 := blk_cell (j := 1) k5 rfl; have f0 := blk_frozen (j := 0) k5; have f1 := blk_frozen (j := 1) k5; have HK5 := hid k5; have HO5 := hid ho5; have HG5 := hid (grown_trans (grown_of (row := (Value.slice av C.length cv).ownBlock) (HB3.out) (Nat.le_refl _)) hg5); clear k5 ho5 hg5)
      obtain ⟨h1, h2⟩ := fin_own (B := B) (N := N) (x := .int .i64 N) (y := .slice a5 (putC C ⟨5, a, 0⟩).length c5) HO5.out HG5.out (by omega : w.heap.size ≤ w.heap.size + 1) HK5.out
      refine bodyPost_ret (v := .tuple #[.agg #[.int .i64 N, .slice a5 (putC C ⟨5, a, 0⟩).length c5], .int .i64 (putV N C ⟨5, a, 0⟩)]) ?_ rfl ⟨.slice a5 (putC C ⟨5, a, 0⟩).length c5, ?_, ?_, h2⟩
      · simp [results, Tryd.results48, go_sem, z0, z1]
      · rw [HV.out]
      · rw [HC.out]; exact h1
end Go.Proofs.YtgfeknjhkciooaaDoor
