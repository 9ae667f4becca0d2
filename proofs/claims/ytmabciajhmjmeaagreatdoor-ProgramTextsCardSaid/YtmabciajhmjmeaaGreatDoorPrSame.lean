/-
  The reference's Same at two programs that read alike.
  No condition beyond the code and the outputs lying in slices.
-/
import Derived.Test.YtmabciajhmjmeaaGreatDoorPrCheck
import Derived.Deep.QuietTactic
import Derived.Laws.StructEq
namespace Go.Proofs.YtmabciajhmjmeaaGreatDoor
open Go.RowKit
set_option linter.unusedVariables false

theorem run_ins_in (x y : Ins) (w : World) : (Op.equalIn 10000 36 (.agg #[.int .i64 x.op, .int .i64 x.a, .int .i64 x.b]) (.agg #[.int .i64 y.op, .int .i64 y.a, .int .i64 y.b])).run Tryz.prog w = .ok (decide (x = y)) w := by
  have u3 := Tryz.underlying3
  have a3 := Tryz.isAgg3
  have z3 := Tryz.sizeOf3
  have hS : Tryz.prog.underlying 36 = some (.struct (Tryz.prog.fieldsOf 36)) := by kernel_rfl
  have hp : Tryz.prog.stoodInHeld 36 = false := by kernel_rfl
  rw [show (10000 : Nat) = 9999 + 1 from rfl, run_equalIn_agg w 9999 36 _ _ hS hp]
  simp only [Program.fieldsOf, Tryz.underlying36]
  go_simp
  obtain ⟨a, b, c⟩ := x
  obtain ⟨d, e, f⟩ := y
  by_cases h1 : a = d <;> by_cases h2 : b = e <;> by_cases h3 : c = f <;> simp [h1, h2, h3]
theorem run_neq_ins (x y : Ins) (w : World) : (binOp .neq 36 (.agg #[.int .i64 x.op, .int .i64 x.a, .int .i64 x.b]) (.agg #[.int .i64 y.op, .int .i64 y.a, .int .i64 y.b])).run Tryz.prog w = .ok (.bool (!decide (x = y))) w := by
  rw [run_neq_struct, run_ins_in]; rfl
theorem run_eql_ins (x y : Ins) (w : World) : (binOp .eql 36 (.agg #[.int .i64 x.op, .int .i64 x.a, .int .i64 x.b]) (.agg #[.int .i64 y.op, .int .i64 y.a, .int .i64 y.b])).run Tryz.prog w = .ok (.bool (decide (x = y))) w := by
  rw [run_eql_struct, run_ins_in]; rfl
theorem guard_ins (op : BinOp) (p q : Operand) (x y : Ins) (w : World) : (eqGuard op 36 p q (.agg #[.int .i64 x.op, .int .i64 x.a, .int .i64 x.b]) (.agg #[.int .i64 y.op, .int .i64 y.a, .int .i64 y.b])).run Tryz.prog w = .ok () w := run_eqGuard_agg w op _ _ _ _ _ (by kernel_rfl)
set_option maxRecDepth 100000 in
set_option maxHeartbeats 4000000 in
theorem psame_any (n : Int) (vc vo vd vp : Value) (c : List Ins) (o : List Int) (w : World) (hc : Sl 3 w vc c.length (icells c)) (ho : Sl 1 w vo o.length (ints o)) (hd : Sl 3 w vd c.length (icells c)) (hp : Sl 1 w vp o.length (ints o)) :
    Calls Tryz.prog 10 #[.agg #[.int .i64 n, vc, vo], .agg #[.int .i64 n, vd, vp]] w fun e w' => e = .returned (.bool true) ∧ Below w.heap.size w w' := by
  have HC := hid hc
  have HO := hid ho
  have HD := hid hd
  have HP := hid hp
  obtain ⟨ac, cc, rfl, _, hc1, hc2, hc3⟩ := hc
  obtain ⟨ao, co, rfl, _, ho1, ho2, ho3⟩ := ho
  obtain ⟨ad, cd, rfl, _, hd1, hd2, hd3⟩ := hd
  obtain ⟨ap, cp, rfl, _, hp1, hp2, hp3⟩ := hp
  clear hc3 ho3 hd3 hp3
  go_enter Tryz.func10, Tryz.ntmps10
  go_upto_region 1 with fail
  obtain ⟨w0, hw0⟩ : ∃ w0, w.alloc (.cells #[.int .i64 n, .slice ac c.length cc, .slice ao o.length co] 25) = w0 := ⟨_, rfl⟩
  obtain ⟨hb0, c0, c1, c2⟩ := boxP hw0
  rw [hw0]
  have HS0 := hid (show w0.heap.size = w.heap.size + 1 by rw [← hw0]; simp)
  clear hw0
  obtain ⟨w1, hw1⟩ : ∃ w1, w0.alloc (.cells #[.int .i64 n, .slice ad c.length cd, .slice ap o.length cp] 25) = w1 := ⟨_, rfl⟩
  obtain ⟨hb1, d0, d1, d2⟩ := boxP hw1
  rw [hw1]
  have c0 := (hb1.cell (p := ⟨w.heap.size, 0, none⟩) (by have := HS0.out; show w.heap.size < _; omega)).trans c0
  have c1 := (hb1.cell (p := ⟨w.heap.size, 1, none⟩) (by have := HS0.out; show w.heap.size < _; omega)).trans c1
  have c2 := (hb1.cell (p := ⟨w.heap.size, 2, none⟩) (by have := HS0.out; show w.heap.size < _; omega)).trans c2
  have HB1 := hid (bel_step hb0 hb1)
  clear hw1 hb0 hb1
  rw [HS0.out] at d0 d1 d2
  clear HS0
  generalize hgw : w.heap.size = g at *
  go_wp2_with fail
  go_loopw [5] (fun i wr => ∃ k : Nat, k ≤ c.length ∧ i = .int .i64 k ∧ Dr w1 wr) (fun i _ => c.length - (intOf i).toNat)
  case atStart => exact ⟨0, Nat.zero_le _, rfl, Dr.refl _⟩
  case round =>
    obtain ⟨k, hk, rfl, hD⟩ := hrel
    have HDr := hid hD
    have c0 := keeps (hD.below _) c0
    have c1 := keeps (hD.below _) c1
    have c2 := keeps (hD.below _) c2
    have d0 := keeps (hD.below _) d0
    have d1 := keeps (hD.below _) d1
    have d2 := keeps (hD.below _) d2
    have HBk := hid (HB1.out.trans (by rw [← hgw]; exact hD.below _))
    clear hD
    rename World => wm
    by_cases hlt : k < c.length
    · obtain ⟨x, hx⟩ := some_of_lt hlt
      obtain ⟨b, off, rfl, x0, x1, x2⟩ := Sl.ins (HC.out.below (by rw [hgw]; exact HBk.out)) hx
      obtain ⟨b', off', rfl, y0, y1, y2⟩ := Sl.ins (HD.out.below (by rw [hgw]; exact HBk.out)) hx
      have hr := fun w => run_neq_ins x x w
      have hg := fun op p q w => guard_ins op p q x x w
      rw [decide_eq_true (rfl : x = x), Bool.not_true] at hr
      clear hx
      obtain ⟨p1, p2, p3⟩ := x
      have hk3 : (0 : Int) ≤ (k : Int) := by omega
      have hk4 : (k : Int) < (c.length : Int) := by omega
      go_upto_region 6 with fail
      go_quiet (fail)
      go_wp2
      go_roundw
      case rel => exact ⟨k + 1, by omega, by go_num, HDr.out.drewN _⟩
      case measure => simp [intOf]; omega
    · go_wp2
      clear c0 c1 d0 d1
      go_loopw [6] (fun i wr => ∃ k : Nat, k ≤ o.length ∧ i = .int .i64 k ∧ Dr wm wr) (fun i _ => o.length - (intOf i).toNat)
      case atStart => exact ⟨0, Nat.zero_le _, rfl, Dr.refl _⟩
      case round =>
        obtain ⟨j, hj, rfl, hD⟩ := hrel
        have HDj := hid hD
        have c2 := keeps (hD.below _) c2
        have d2 := keeps (hD.below _) d2
        have HBj := hid (HBk.out.trans (by rw [← hgw]; exact hD.below _))
        clear hD
        rename World => wk
        by_cases hlt2 : j < o.length
        · obtain ⟨x, hx⟩ := some_of_lt hlt2
          obtain ⟨b, off, rfl, e1⟩ := (HO.out.below (by rw [hgw]; exact HBj.out)).cell (ints_get hx)
          obtain ⟨b', off', rfl, e2⟩ := (HP.out.below (by rw [hgw]; exact HBj.out)).cell (ints_get hx)
          clear hx
          have hk3 : (0 : Int) ≤ (j : Int) := by omega
          have hk4 : (j : Int) < (o.length : Int) := by omega
          go_upto_region 11 with fail
          go_quiet (fail)
          go_wp2
          go_roundw
          case rel => exact ⟨j + 1, by omega, by go_num, HDj.out.drewN _⟩
          case measure => simp [intOf]; omega
        · go_wp2
          go_ret
          exact ⟨rfl, by rw [hgw]; exact HBj.out⟩
end Go.Proofs.YtmabciajhmjmeaaGreatDoor
