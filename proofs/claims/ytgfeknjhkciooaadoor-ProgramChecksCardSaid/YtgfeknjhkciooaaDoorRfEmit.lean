/-
  The reference's reducer: emit.
  The code lies in a row that the caller owns; not longer than 100000.
-/
import Derived.Test.YtgfeknjhkciooaaDoorPrPut
import Derived.Test.YtgfeknjhkciooaaDoorPrSame
namespace Go.Proofs.YtgfeknjhkciooaaDoor
open Go.RowKit Go.Deep
set_option linter.unusedVariables false

theorem emit_lay {w w3 : World} {o1 o2 o3 : Obj} (h : ((w.alloc o1).alloc o2).alloc o3 = w3) :
    Below w.heap.size w w3 ∧ w3.heap[w.heap.size]? = some o1 ∧ w3.heap[w.heap.size + 1]? = some o2 ∧ w3.heap[w.heap.size + 1 + 1]? = some o3 ∧ w3.heap.size = w.heap.size + 1 + 1 + 1 := by
  subst h
  refine ⟨((bel_alloc _ _).alloc (by simp) _).alloc (by simp; omega) _, ?_, ?_, ?_, by simp⟩
  · rw [Below.heap_alloc _ _ _ (by simp; omega), Below.heap_alloc _ _ _ (by simp)]; exact heap_alloc_new w _
  · rw [Below.heap_alloc _ _ _ (by simp)]; have := heap_alloc_new (w.alloc o1) o2; rwa [World.size_alloc] at this
  · have := heap_alloc_new ((w.alloc o1).alloc o2) o3; rwa [World.size_alloc, World.size_alloc] at this
/-- A block that reads so. -/
theorem blk_cell {w : World} {b j : Nat} {cs : Array Value} {T : TypeId} {v : Value} (h : w.heap[b]? = some (.cells cs T (0, 0))) (hj : cs[j]? = some v) : w.cell? ⟨b, j, none⟩ = some v := by
  rw [cell_of_row w b j cs T (0, 0) h]; exact hj
theorem blk_frozen {w : World} {b j : Nat} {cs : Array Value} {T : TypeId} (h : w.heap[b]? = some (.cells cs T (0, 0))) : w.frozen? ⟨b, j, none⟩ = false := Lib.frozen_of_heap h j
theorem idx_at {C : List Ins} {k : Nat} {x : Ins} (h : C[k]? = some x) (hn : x ∉ C.take k) : C.idxOf x = k := by
  induction C generalizing k with
  | nil => simp at h
  | cons y t ih =>
    cases k with
    | zero =>
      simp at h
      subst h
      simp
    | succ k =>
      rw [List.take_succ_cons, List.mem_cons, not_or] at hn
      rw [List.getElem?_cons_succ] at h
      rw [List.idxOf_cons, ih h hn.2]
      have : (y == x) = false := by simpa using fun e => hn.1 e.symm
      rw [this]; rfl
theorem own_set {w : World} {B : Nat} {e : TypeId} {sz : Nat} {v : Value} {n : Nat} {xs : List Value} (h : w.ownsRow B e sz v n xs) {a : Addr} {cs : Array Value} {T : TypeId} {fl : Nat × Nat} (hk : w.heap[a.block]? = some (.cells cs T fl)) (hT : T ≠ e) (u : Value) : (w.setCell a u).ownsRow B e sz v n xs := by
  obtain ⟨h0, h1⟩ := h
  refine ⟨h0, ?_⟩
  rcases h1 with h1 | ⟨g, cap, cur, h1, h2, h3, h4⟩
  · exact .inl h1
  · refine .inr ⟨g, cap, cur, h1, h2, (Below.heap_setCell _ _ _ _ ?_).trans h3, h4⟩
    intro e'
    rw [e', hk] at h3
    simp only [Option.some.injEq, Obj.cells.injEq] at h3
    exact hT h3.2.1
/-- Two stores into one box. -/
theorem own_set2 {w : World} {B : Nat} {e : TypeId} {sz : Nat} {v : Value} {n : Nat} {xs : List Value} (h : w.ownsRow B e sz v n xs) {b : Nat} {cs : Array Value} {T : TypeId} {fl : Nat × Nat} (hk : w.heap[b]? = some (.cells cs T fl)) (hT : T ≠ e) (i j : Nat) (u v' : Value) : ((w.setCell ⟨b, i, none⟩ u).setCell ⟨b, j, none⟩ v').ownsRow B e sz v n xs :=
  own_set (own_set h (a := ⟨b, i, none⟩) hk hT u) (a := ⟨b, j, none⟩) (cs := cs.set! i u) (T := T) (fl := fl) (by simp [World.setCell, Array.getElem?_modify, hk]) hT v'
theorem grown_of {w w' : World} {B : Nat} {row : Option Nat} (h : Below B w w') (hB : w.heap.size ≤ B) : w.grownBy w' row := ⟨h.os, h.tape, h.output, h.size, fun k hk _ => h.block k (by omega)⟩
theorem grown_trans {w1 w2 w3 : World} {row : Option Nat} (h : w1.grownBy w2 row) (k : w2.grownBy w3 row) : w1.grownBy w3 row :=
  ⟨k.os.trans h.os, k.tape.trans h.tape, k.output.trans h.output, Nat.le_trans h.size k.size, fun j hj hne => (k.block j (Nat.lt_of_lt_of_le hj h.size) hne).trans (h.block j hj hne)⟩
theorem grown_set {w w' : World} {row : Option Nat} (h : w.grownBy w' row) {a : Addr} (ha : w.heap.size ≤ a.block) (v : Value) : w.grownBy (w'.setCell a v) row :=
  ⟨h.os, h.tape, h.output, by have := h.size; simpa using this, fun k hk hne => (Below.heap_setCell _ _ _ _ (by omega)).trans (h.block k hk hne)⟩
set_option maxRecDepth 100000 in
set_option maxHeartbeats 4000000 in
theorem remit_any (B N : Nat) (v : Value) (C : List Ins) (op a b : Int) (w : World) (h : w.ownsRow B 41 3 v C.length (icells C)) (hB : B ≤ w.heap.size) (hl : C.length ≤ 100000) (hN : N ≤ 24) :
    Calls Tryd.prog 92 #[.agg #[.int .i64 N, v], .agg #[.int .i64 op, .int .i64 a, .int .i64 b]] w fun e w' => ∃ v', e = .returned (.tuple #[.agg #[.int .i64 N, v'], .int .i64 (putV N C ⟨op, a, b⟩)]) ∧
      w'.ownsRow B 41 3 v' (putC C ⟨op, a, b⟩).length (icells (putC C ⟨op, a, b⟩)) ∧ w.grownBy w' v.ownBlock := by
  have HO := hid h
  have HB := hid hB
  obtain ⟨av, cv, rfl⟩ := own_slice h
  obtain ⟨_, _, e0, _, hcc1, hcc2, _⟩ := Sl.of_owns h
  simp only [Value.slice.injEq, true_and] at e0
  obtain ⟨rfl, rfl⟩ := e0
  have HLt := hid (fun (g : Nat) (hg : (Value.slice av C.length cv).ownBlock = some g) => (Array.getElem?_eq_some_iff.1 (own_block h hg).2.choose_spec).1)
  clear h hB
  go_enter Tryd.func92, Tryd.ntmps92
  go_upto_region 1 with fail
  obtain ⟨w3, hw3⟩ : ∃ w3, ((w.alloc (.cells #[.int .i64 N, .slice av C.length cv] 96)).alloc (.cells #[.int .i64 op, .int .i64 a, .int .i64 b] 41)).alloc (.cells #[.int .i64 0, .slice none 0 0] 96) = w3 := ⟨_, rfl⟩
  obtain ⟨hb3, k1, k2, k3, hs3⟩ := emit_lay hw3
  rw [hw3]
  have r0 := blk_cell (j := 0) k1 rfl
  have r1 := blk_cell (j := 1) k1 rfl
  have y0 := blk_cell (j := 0) k2 rfl
  have y1 := blk_cell (j := 1) k2 rfl
  have y2 := blk_cell (j := 2) k2 rfl
  have z0 := blk_cell (j := 0) k3 rfl
  have z1 := blk_cell (j := 1) k3 rfl
  have HK := hid (And.intro k1 (And.intro k2 k3))
  have HB3 := hid hb3
  have HS3 := hid hs3
  clear hw3 k1 k2 k3 hb3 hs3
  generalize hgw : w.heap.size = g at *
  have HG := hid hgw
  clear hgw
  go_wp2_with fail
  go_loopw [6] (fun i wr => ∃ k : Nat, k ≤ C.length ∧ i = .int .i64 k ∧ Dr w3 wr ∧ Hid (⟨op, a, b⟩ ∉ C.take k)) (fun i _ => C.length - (intOf i).toNat)
  case atStart => exact ⟨0, Nat.zero_le _, rfl, Dr.refl _, hid (by simp)⟩
  case round =>
    obtain ⟨k, hk, rfl, hD, HN⟩ := hrel
    have HD := hid hD
    have r0 := keeps (hD.below _) r0
    have r1 := keeps (hD.below _) r1
    have y0 := keeps (hD.below _) y0
    have y1 := keeps (hD.below _) y1
    have y2 := keeps (hD.below _) y2
    have z0 := keeps (hD.below _) z0
    have z1 := keeps (hD.below _) z1
    clear hD
    rename World => wm
    by_cases hlt : k < C.length
    · obtain ⟨x, hx⟩ := some_of_lt hlt
      have HX := hid hx
      have HOm := hid (own_below HO.out (by rw [HG.out]; exact HB3.out.trans (HD.out.below _)))
      obtain ⟨bc, off, rfl, x0, x1, x2⟩ := Sl.ins (Sl.of_owns HOm.out) hx
      clear hx
      have hk3 : (0 : Int) ≤ (k : Int) := by omega
      have hk4 : (k : Int) < (C.length : Int) := by omega
      by_cases he : x = ⟨op, a, b⟩
      · have HI := hid (show C.idxOf ⟨op, a, b⟩ = k from idx_at (by rw [← he]; exact HX.out) HN.out)
        have HM := hid (show (⟨op, a, b⟩ : Ins) ∈ C by rw [← he]; exact List.mem_of_getElem? HX.out)
        subst he
        have hr := fun w => run_eql_ins ⟨op, a, b⟩ ⟨op, a, b⟩ w
        have hgd := fun o p q w => guard_ins o p q ⟨op, a, b⟩ ⟨op, a, b⟩ w
        rw [decide_eq_true (rfl : (⟨op, a, b⟩ : Ins) = ⟨op, a, b⟩)] at hr
        have zf := fun j => blk_frozen (j := j) ((HD.out.below (g + 1 + 1 + 1)).block (g + 1 + 1) (by omega) |>.trans HK.out.2.2)
        have zf0 := zf 0
        have zf1 := zf 1
        have hwr : IntKind.i64.wrap ((N : Int) + (k : Int)) = (N : Int) + (k : Int) := IntWalk.i64_in _ (by omega)
        clear zf
        go_upto_region 4 with fail
        go_quiet (fail)
        go_upto_region 5 with fail
        go_region
        all_goals
          go_wp2_with fail
          refine bodyPost_ret (v := .tuple #[.agg #[.int .i64 N, .slice (some ⟨bc, off, none⟩) C.length cv], .int .i64 ((N : Int) + (k : Int))]) ?_ rfl ⟨.slice (some ⟨bc, off, none⟩) C.length cv, ?_, ?_, ?_⟩
          · simp [results, Tryd.results92, go_sem, z0, z1]
          · rw [putV, HI.out, Int.natCast_add]
          · rw [putC, if_pos HM.out]
            exact own_set2 (own_below HOm.out (below_drewN (Below.refl _ _) _)) (((HD.out.below (g + 1 + 1 + 1)).block (g + 1 + 1) (by omega)).trans HK.out.2.2) (by decide) _ _ _ _
          · exact grown_set (grown_set (grown_of (HB3.out.trans (below_drewN (HD.out.below _) _)) (by rw [HG.out]; exact Nat.le_refl _)) (by rw [HG.out]; show g ≤ g + 1 + 1; omega) _) (by rw [HG.out]; show g ≤ g + 1 + 1; omega) _
      · have hr := fun w => run_eql_ins x ⟨op, a, b⟩ w
        have hgd := fun o p q w => guard_ins o p q x ⟨op, a, b⟩ w
        rw [decide_eq_false he] at hr
        have HN2 := hid (show (⟨op, a, b⟩ : Ins) ∉ C.take (k + 1) by rw [take_snoc HX.out, List.mem_append]; rintro (h | h); exact HN.out h; simp at h; exact he h.symm)
        clear he
        obtain ⟨p1, p2, p3⟩ := x
        go_upto_region 4 with fail
        go_quiet (fail)
        go_wp2
        go_roundw
        case rel => exact ⟨k + 1, by omega, by go_num, HD.out.drewN _, HN2⟩
        case measure => simp [intOf]; omega
    · have hkc : k = C.length := by omega
      have HNo := hid (show (⟨op, a, b⟩ : Ins) ∉ C by have := HN.out; rwa [hkc, take_all (Nat.le_refl _)] at this)
      have HOm := hid (own_below HO.out (by rw [HG.out]; exact HB3.out.trans (HD.out.below _)))
      have HKm := hid (show wm.heap[g]? = _ ∧ wm.heap[g + 1]? = _ ∧ wm.heap[g + 1 + 1]? = _ from ⟨((HD.out.below (g + 1 + 1 + 1)).block g (by omega)).trans HK.out.1, ((HD.out.below (g + 1 + 1 + 1)).block (g + 1) (by omega)).trans HK.out.2.1, ((HD.out.below (g + 1 + 1 + 1)).block (g + 1 + 1) (by omega)).trans HK.out.2.2⟩)
      have HSm := hid (show g + 1 + 1 + 1 ≤ wm.heap.size by have := (HD.out.below (g + 1 + 1 + 1)).size; have := HS3.out; omega)
      clear HN hkc
      go_wp2_with (at_builtin; refine wpList_push wm rfl _ _ 22 rfl B 41 (.agg #[.int .i64 0, .int .i64 0, .int .i64 0]) 3 24 Tryd.underlying22 Tryd.infoInstr rfl (by decide) (.slice av C.length cv) C.length (icells C) rfl HOm.out #[.int .i64 op, .int .i64 a, .int .i64 b] rfl (by intro u hu; simp at hu; rcases hu with rfl | rfl | rfl <;> rfl) rfl (by unfold maxLen; omega) (by omega) (by have := HB.out; have := HSm.out; omega) ?_; intro gv capv w5 hown5 hg5 hb5; have HO5 := hid hown5; have HG5 := hid hg5; have hj1 := (hg5.block g (by have := HSm.out; omega) (fun e => by have := HLt.out g e.symm; omega)).trans HKm.out.1; have hj3 := (hg5.block (g + 1 + 1) (by have := HSm.out; omega) (fun e => by have := HLt.out (g + 1 + 1) e.symm; omega)).trans HKm.out.2.2; have q0 := blk_cell (j := 0) hj1 rfl; have q1 := blk_cell (j := 1) hj1 rfl; have qf := blk_frozen (j := 1) hj1; have u0 := blk_cell (j := 0) hj3 rfl; have u1 := blk_cell (j := 1) hj3 rfl; have uf0 := blk_frozen (j := 0) hj3; have uf1 := blk_frozen (j := 1) hj3; have HJ := hid (And.intro hj1 hj3); clear hown5 hg5 hb5 hj1 hj3)
      have hgB := HB.out
      obtain ⟨w6, hw6⟩ : ∃ w6, w5.setCell ⟨g, 1, none⟩ (.slice (some ⟨gv, 0, none⟩) (C.length + 1) capv) = w6 := ⟨_, rfl⟩
      have hj1 : w6.heap[g]? = some (.cells #[.int .i64 N, .slice (some ⟨gv, 0, none⟩) (C.length + 1) capv] 96 (0, 0)) := by rw [← hw6]; simp [World.setCell, Array.getElem?_modify, HJ.out.1]
      have hj3 : w6.heap[g + 1 + 1]? = some (.cells #[.int .i64 0, .slice none 0 0] 96 (0, 0)) := by rw [← hw6]; exact (Below.heap_setCell _ _ _ _ (by show g + 1 + 1 ≠ g; omega)).trans HJ.out.2
      have HO6 := hid (show w6.ownsRow B 41 3 (.slice (some ⟨gv, 0, none⟩) (C.length + 1) capv) (C.length + 1) (icells C ++ [.int .i64 op, .int .i64 a, .int .i64 b]) by rw [← hw6]; exact own_set HO5.out (a := ⟨g, 1, none⟩) HJ.out.1 (by decide) _)
      have HG6 := hid (show w.grownBy w6 (Value.slice av C.length cv).ownBlock by rw [← hw6]; exact grown_set (grown_trans (grown_of (HB3.out.trans (HD.out.below _)) (by rw [HG.out]; exact Nat.le_refl _)) HG5.out) (by rw [HG.out]; exact Nat.le_refl _) _)
      rw [hw6]
      clear hw6 q0 q1 qf u0 u1 uf0 uf1 HO5 HG5 HJ r0 r1 y0 y1 y2 z0 z1
      have q0 := blk_cell (j := 0) hj1 rfl
      have q1 := blk_cell (j := 1) hj1 rfl
      have u0 := blk_cell (j := 0) hj3 rfl
      have u1 := blk_cell (j := 1) hj3 rfl
      have uf0 := blk_frozen (j := 0) hj3
      have uf1 := blk_frozen (j := 1) hj3
      have hs1 : IntKind.i64.wrap ((N : Int) + ((C.length : Int) + 1)) = (N : Int) + ((C.length : Int) + 1) := IntWalk.i64_in _ (by omega)
      have hs2 : IntKind.i64.wrap ((N : Int) + ((C.length : Int) + 1) - 1) = (N : Int) + (C.length : Int) := (IntWalk.i64_in _ (by omega)).trans (by omega)
      have HJ6 := hid hj3
      clear hj1 hj3
      go_upto_region 7 with fail
      go_region
      all_goals
        go_wp2_with fail
        refine bodyPost_ret (v := .tuple #[.agg #[.int .i64 N, .slice (some ⟨gv, 0, none⟩) (C.length + 1) capv], .int .i64 ((N : Int) + (C.length : Int))]) ?_ rfl ⟨.slice (some ⟨gv, 0, none⟩) (C.length + 1) capv, ?_, ?_, ?_⟩
        · simp [results, Tryd.results92, go_sem, u0, u1]
        · rw [putV, List.idxOf_eq_length HNo.out, Int.natCast_add]
        · rw [putC, if_neg HNo.out, List.length_append, icells_snoc]
          exact own_set2 (own_below HO6.out (below_drewN (Below.refl _ _) 1)) HJ6.out (by decide) _ _ _ _
        · exact grown_set (grown_set (grown_trans HG6.out (grown_of (below_drewN (Below.refl _ _) 1) (Nat.le_refl _))) (by rw [HG.out]; show g ≤ g + 1 + 1; omega) _) (by rw [HG.out]; show g ≤ g + 1 + 1; omega) _
end Go.Proofs.YtgfeknjhkciooaaDoor
