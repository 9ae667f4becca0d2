/-
  The reference's Same at two programs that read alike.
  The reference's reducer: emit.
  Conditions: No condition beyond the code and the outputs lying in slices. The code lies in a row that the caller owns; not longer than 100000.
-/
import Derived.Test.YtcdfghogmdhfcaaGreatDoorPrCheck
import Derived.Deep.QuietTactic
import Derived.Laws.StructEq
import Derived.Test.YtcdfghogmdhfcaaGreatDoorMg15
namespace Go.Proofs.YtcdfghogmdhfcaaGreatDoor
open Go.RowKit
set_option linter.unusedVariables false

theorem run_ins_in (x y : Ins) (w : World) : (Op.equalIn 10000 47 (.agg #[.int .i64 x.op, .int .i64 x.a, .int .i64 x.b]) (.agg #[.int .i64 y.op, .int .i64 y.a, .int .i64 y.b])).run Tryz.prog w = .ok (decide (x = y)) w := by
  have u3 := Tryz.underlying3
  have a3 := Tryz.isAgg3
  have z3 := Tryz.sizeOf3
  have hS : Tryz.prog.underlying 47 = some (.struct (Tryz.prog.fieldsOf 47)) := by kernel_rfl
  have hp : Tryz.prog.stoodInHeld 47 = false := by kernel_rfl
  rw [show (10000 : Nat) = 9999 + 1 from rfl, run_equalIn_agg w 9999 47 _ _ hS hp]
  simp only [Program.fieldsOf, Tryz.underlying47]
  go_simp
  obtain ⟨a, b, c⟩ := x
  obtain ⟨d, e, f⟩ := y
  by_cases h1 : a = d <;> by_cases h2 : b = e <;> by_cases h3 : c = f <;> simp [h1, h2, h3]
theorem run_neq_ins (x y : Ins) (w : World) : (binOp .neq 47 (.agg #[.int .i64 x.op, .int .i64 x.a, .int .i64 x.b]) (.agg #[.int .i64 y.op, .int .i64 y.a, .int .i64 y.b])).run Tryz.prog w = .ok (.bool (!decide (x = y))) w := by
  rw [run_neq_struct, run_ins_in]; rfl
theorem run_eql_ins (x y : Ins) (w : World) : (binOp .eql 47 (.agg #[.int .i64 x.op, .int .i64 x.a, .int .i64 x.b]) (.agg #[.int .i64 y.op, .int .i64 y.a, .int .i64 y.b])).run Tryz.prog w = .ok (.bool (decide (x = y))) w := by
  rw [run_eql_struct, run_ins_in]; rfl
theorem guard_ins (op : BinOp) (p q : Operand) (x y : Ins) (w : World) : (eqGuard op 47 p q (.agg #[.int .i64 x.op, .int .i64 x.a, .int .i64 x.b]) (.agg #[.int .i64 y.op, .int .i64 y.a, .int .i64 y.b])).run Tryz.prog w = .ok () w := run_eqGuard_agg w op _ _ _ _ _ (by kernel_rfl)
set_option maxRecDepth 100000 in
set_option maxHeartbeats 4000000 in
theorem psame_any (n : Int) (vc vo vd vp : Value) (c : List Ins) (o : List Int) (w : World) (hc : Sl 3 w vc c.length (icells c)) (ho : Sl 1 w vo o.length (ints o)) (hd : Sl 3 w vd c.length (icells c)) (hp : Sl 1 w vp o.length (ints o)) :
    Calls Tryz.prog 15 #[.agg #[.int .i64 n, vc, vo], .agg #[.int .i64 n, vd, vp]] w fun e w' => e = .returned (.bool true) ∧ Below w.heap.size w w' := by
  have HC := hid hc
  have HO := hid ho
  have HD := hid hd
  have HP := hid hp
  obtain ⟨ac, cc, rfl, _, hc1, hc2, hc3⟩ := hc
  obtain ⟨ao, co, rfl, _, ho1, ho2, ho3⟩ := ho
  obtain ⟨ad, cd, rfl, _, hd1, hd2, hd3⟩ := hd
  obtain ⟨ap, cp, rfl, _, hp1, hp2, hp3⟩ := hp
  clear hc3 ho3 hd3 hp3
  go_enter Tryz.func15, Tryz.ntmps15
  go_upto_region 1 with fail
  obtain ⟨w0, hw0⟩ : ∃ w0, w.alloc (.cells #[.int .i64 n, .slice ac c.length cc, .slice ao o.length co] 28) = w0 := ⟨_, rfl⟩
  obtain ⟨hb0, c0, c1, c2⟩ := boxP hw0
  rw [hw0]
  have HS0 := hid (show w0.heap.size = w.heap.size + 1 by rw [← hw0]; simp)
  clear hw0
  obtain ⟨w1, hw1⟩ : ∃ w1, w0.alloc (.cells #[.int .i64 n, .slice ad c.length cd, .slice ap o.length cp] 28) = w1 := ⟨_, rfl⟩
  obtain ⟨hb1, d0, d1, d2⟩ := boxP hw1
  rw [hw1]
  have c0 := (hb1.cell (p := ⟨w.heap.size, 0, none⟩) (by have := HS0.out; show w.heap.size < _; omega)).trans c0
  have c1 := (hb1.cell (p := ⟨w.heap.size, 1, none⟩) (by have := HS0.out; show w.heap.size < _; omega)).trans c1
  have c2 := (hb1.cell (p := ⟨w.heap.size, 2, none⟩) (by have := HS0.out; show w.heap.size < _; omega)).trans c2
  have HB1 := hid (bel_step hb0 hb1)
  clear hw1 hb0 hb1
  rw [HS0.out] at d0 d1 d2
  clear HS0
  generalize hgw : w.heap.size = g at *
  go_wp2_with fail
  go_loopw [5] (fun i wr => ∃ k : Nat, k ≤ c.length ∧ i = .int .i64 k ∧ Dr w1 wr) (fun i _ => c.length - (intOf i).toNat)
  case atStart => exact ⟨0, Nat.zero_le _, rfl, Dr.refl _⟩
  case round =>
    obtain ⟨k, hk, rfl, hD⟩ := hrel
    have HDr := hid hD
    have c0 := keeps (hD.below _) c0
    have c1 := keeps (hD.below _) c1
    have c2 := keeps (hD.below _) c2
    have d0 := keeps (hD.below _) d0
    have d1 := keeps (hD.below _) d1
    have d2 := keeps (hD.below _) d2
    have HBk := hid (HB1.out.trans (by rw [← hgw]; exact hD.below _))
    clear hD
    rename World => wm
    by_cases hlt : k < c.length
    · obtain ⟨x, hx⟩ := some_of_lt hlt
      obtain ⟨b, off, rfl, x0, x1, x2⟩ := Sl.ins (HC.out.below (by rw [hgw]; exact HBk.out)) hx
      obtain ⟨b', off', rfl, y0, y1, y2⟩ := Sl.ins (HD.out.below (by rw [hgw]; exact HBk.out)) hx
      have hr := fun w => run_neq_ins x x w
      have hg := fun op p q w => guard_ins op p q x x w
      rw [decide_eq_true (rfl : x = x), Bool.not_true] at hr
      clear hx
      obtain ⟨p1, p2, p3⟩ := x
      have hk3 : (0 : Int) ≤ (k : Int) := by omega
      have hk4 : (k : Int) < (c.length : Int) := by omega
      go_upto_region 6 with fail
      go_quiet (fail)
      go_wp2
      go_roundw
      case rel => exact ⟨k + 1, by omega, by go_num, HDr.out.drewN _⟩
      case measure => simp [intOf]; omega
    · go_wp2
      clear c0 c1 d0 d1
      go_loopw [6] (fun i wr => ∃ k : Nat, k ≤ o.length ∧ i = .int .i64 k ∧ Dr wm wr) (fun i _ => o.length - (intOf i).toNat)
      case atStart => exact ⟨0, Nat.zero_le _, rfl, Dr.refl _⟩
      case round =>
        obtain ⟨j, hj, rfl, hD⟩ := hrel
        have HDj := hid hD
        have c2 := keeps (hD.below _) c2
        have d2 := keeps (hD.below _) d2
        have HBj := hid (HBk.out.trans (by rw [← hgw]; exact hD.below _))
        clear hD
        rename World => wk
        by_cases hlt2 : j < o.length
        · obtain ⟨x, hx⟩ := some_of_lt hlt2
          obtain ⟨b, off, rfl, e1⟩ := (HO.out.below (by rw [hgw]; exact HBj.out)).cell (ints_get hx)
          obtain ⟨b', off', rfl, e2⟩ := (HP.out.below (by rw [hgw]; exact HBj.out)).cell (ints_get hx)
          clear hx
          have hk3 : (0 : Int) ≤ (j : Int) := by omega
          have hk4 : (j : Int) < (o.length : Int) := by omega
          go_upto_region 11 with fail
          go_quiet (fail)
          go_wp2
          go_roundw
          case rel => exact ⟨j + 1, by omega, by go_num, HDj.out.drewN _⟩
          case measure => simp [intOf]; omega
        · go_wp2
          go_ret
          exact ⟨rfl, by rw [hgw]; exact HBj.out⟩
end Go.Proofs.YtcdfghogmdhfcaaGreatDoor

namespace Go.Proofs.YtcdfghogmdhfcaaGreatDoor
open Go.RowKit Go.Deep
set_option linter.unusedVariables false

theorem emit_lay {w w3 : World} {o1 o2 o3 : Obj} (h : ((w.alloc o1).alloc o2).alloc o3 = w3) :
    Below w.heap.size w w3 ∧ w3.heap[w.heap.size]? = some o1 ∧ w3.heap[w.heap.size + 1]? = some o2 ∧ w3.heap[w.heap.size + 1 + 1]? = some o3 ∧ w3.heap.size = w.heap.size + 1 + 1 + 1 := by
  subst h
  refine ⟨((bel_alloc _ _).alloc (by simp) _).alloc (by simp; omega) _, ?_, ?_, ?_, by simp⟩
  · rw [Below.heap_alloc _ _ _ (by simp; omega), Below.heap_alloc _ _ _ (by simp)]; exact heap_alloc_new w _
  · rw [Below.heap_alloc _ _ _ (by simp)]; have := heap_alloc_new (w.alloc o1) o2; rwa [World.size_alloc] at this
  · have := heap_alloc_new ((w.alloc o1).alloc o2) o3; rwa [World.size_alloc, World.size_alloc] at this
/-- A block that reads so. -/
theorem blk_cell {w : World} {b j : Nat} {cs : Array Value} {T : TypeId} {v : Value} (h : w.heap[b]? = some (.cells cs T (0, 0))) (hj : cs[j]? = some v) : w.cell? ⟨b, j, none⟩ = some v := by
  rw [cell_of_row w b j cs T (0, 0) h]; exact hj
theorem blk_frozen {w : World} {b j : Nat} {cs : Array Value} {T : TypeId} (h : w.heap[b]? = some (.cells cs T (0, 0))) : w.frozen? ⟨b, j, none⟩ = false := Lib.frozen_of_heap h j
theorem idx_at {C : List Ins} {k : Nat} {x : Ins} (h : C[k]? = some x) (hn : x ∉ C.take k) : C.idxOf x = k := by
  induction C generalizing k with
  | nil => simp at h
  | cons y t ih =>
    cases k with
    | zero =>
      simp at h
      subst h
      simp
    | succ k =>
      rw [List.take_succ_cons, List.mem_cons, not_or] at hn
      rw [List.getElem?_cons_succ] at h
      rw [List.idxOf_cons, ih h hn.2]
      have : (y == x) = false := by simpa using fun e => hn.1 e.symm
      rw [this]; rfl
theorem own_set {w : World} {B : Nat} {e : TypeId} {sz : Nat} {v : Value} {n : Nat} {xs : List Value} (h : w.ownsRow B e sz v n xs) {a : Addr} {cs : Array Value} {T : TypeId} {fl : Nat × Nat} (hk : w.heap[a.block]? = some (.cells cs T fl)) (hT : T ≠ e) (u : Value) : (w.setCell a u).ownsRow B e sz v n xs := by
  obtain ⟨h0, h1⟩ := h
  refine ⟨h0, ?_⟩
  rcases h1 with h1 | ⟨g, cap, cur, h1, h2, h3, h4⟩
  · exact .inl h1
  · refine .inr ⟨g, cap, cur, h1, h2, (Below.heap_setCell _ _ _ _ ?_).trans h3, h4⟩
    intro e'
    rw [e', hk] at h3
    simp only [Option.some.injEq, Obj.cells.injEq] at h3
    exact hT h3.2.1
/-- Two stores into one box. -/
theorem own_set2 {w : World} {B : Nat} {e : TypeId} {sz : Nat} {v : Value} {n : Nat} {xs : List Value} (h : w.ownsRow B e sz v n xs) {b : Nat} {cs : Array Value} {T : TypeId} {fl : Nat × Nat} (hk : w.heap[b]? = some (.cells cs T fl)) (hT : T ≠ e) (i j : Nat) (u v' : Value) : ((w.setCell ⟨b, i, none⟩ u).setCell ⟨b, j, none⟩ v').ownsRow B e sz v n xs :=
  own_set (own_set h (a := ⟨b, i, none⟩) hk hT u) (a := ⟨b, j, none⟩) (cs := cs.set! i u) (T := T) (fl := fl) (by simp [World.setCell, Array.getElem?_modify, hk]) hT v'
theorem grown_of {w w' : World} {B : Nat} {row : Option Nat} (h : Below B w w') (hB : w.heap.size ≤ B) : w.grownBy w' row := ⟨h.os, h.tape, h.output, h.size, fun k hk _ => h.block k (by omega)⟩
theorem grown_trans {w1 w2 w3 : World} {row : Option Nat} (h : w1.grownBy w2 row) (k : w2.grownBy w3 row) : w1.grownBy w3 row :=
  ⟨k.os.trans h.os, k.tape.trans h.tape, k.output.trans h.output, Nat.le_trans h.size k.size, fun j hj hne => (k.block j (Nat.lt_of_lt_of_le hj h.size) hne).trans (h.block j hj hne)⟩
theorem grown_set {w w' : World} {row : Option Nat} (h : w.grownBy w' row) {a : Addr} (ha : w.heap.size ≤ a.block) (v : Value) : w.grownBy (w'.setCell a v) row :=
  ⟨h.os, h.tape, h.output, by have := h.size; simpa using this, fun k hk hne => (Below.heap_setCell _ _ _ _ (by omega)).trans (h.block k hk hne)⟩
end Go.Proofs.YtcdfghogmdhfcaaGreatDoor
