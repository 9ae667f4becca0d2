/-
  integer: multiply, Mul, short, divide, Div at numbers of one digit.
  The numbers are less than 2^32.
-/
import Derived.Test.YtieahckbbohfgaaGreatDoorIntegers
import Derived.Test.YtieahckbbohfgaaGreatDoorLibTwo
import Derived.Deep.QuietTactic
import Derived.Deep.Slices
namespace Go.Proofs.YtieahckbbohfgaaGreatDoor
open Go.RowKit Go.Deep
set_option linter.unusedVariables false

theorem bel_alloc (w : World) (o : Obj) : Below w.heap.size w (w.alloc o) := (Below.refl _ _).alloc (Nat.le_refl _) _
theorem digs_one {n : Nat} (h0 : n ≠ 0) (h : n < 4294967296) : digs n = [(n : Int)] := by
  rw [digs_pos h0, Nat.mod_eq_of_lt h, Nat.div_eq_of_lt h, digs_zero]
theorem nt_zero (w : World) : Nt w (.slice none 0 0) 0 := by
  unfold Nt; rw [digs_zero]; exact Sl.nil 1 w
theorem nt_one {w : World} {v : Value} {n : Nat} (h : Nt w v n) (h0 : n ≠ 0) (hn : n < 4294967296) : ∃ b o cap, v = .slice (some ⟨b, o, none⟩) 1 cap ∧ 1 ≤ cap ∧ cap ≤ 9223372036854775807 ∧ w.cell? ⟨b, o, none⟩ = some (.int .u32 n) := by
  unfold Nt at h
  rw [digs_one h0 hn] at h
  obtain ⟨ao, cap, rfl, _, h1, h2, h3⟩ := h
  rcases h3 with h3 | ⟨b, o, rfl, h3⟩
  · cases h3
  · exact ⟨b, o, cap, rfl, h1, h2, h3 0 _ rfl⟩
theorem nt_nil {w : World} {v : Value} (h : Nt w v 0) : ∃ ao cap, v = .slice ao 0 cap ∧ cap ≤ 9223372036854775807 := by
  unfold Nt at h
  rw [digs_zero] at h
  obtain ⟨ao, cap, rfl, _, h1, h2, h3⟩ := h
  exact ⟨ao, cap, rfl, h2⟩
theorem two_cells {w : World} {base g c : Nat} {T : TypeId} {x y : Value} (h : w.ownsRow base T 1 (.slice (some ⟨g, 0, none⟩) 2 c) 2 [x, y]) : (w.cell? ⟨g, 0, none⟩ = some x ∧ w.cell? ⟨g, 1, none⟩ = some y) ∧ w.frozen? ⟨g, 0, none⟩ = false ∧ w.frozen? ⟨g, 1, none⟩ = false := by
  obtain ⟨b, o, e1, h1⟩ := (Sl.of_owns h).cell (k := 0) (x := x) rfl
  obtain ⟨b', o', e2, h2⟩ := (Sl.of_owns h).cell (k := 1) (x := y) rfl
  cases e1; cases e2
  refine ⟨⟨h1, h2⟩, ?_⟩
  rcases h.2 with ⟨h2, _⟩ | ⟨g', cap, cur, hv, _, hh, _⟩
  · cases h2
  · cases hv
    exact ⟨Lib.frozen_of_heap hh _, Lib.frozen_of_heap hh _⟩
set_option maxRecDepth 100000 in
set_option maxHeartbeats 4000000 in
theorem multiply_small (v1 v2 : Value) (a b : Nat) (w : World) (h1 : Nt w v1 a) (h2 : Nt w v2 b) (ha : a < 4294967296) (hb : b < 4294967296) :
    Calls Tryz.prog 116 #[v1, v2] w fun e w' => (∃ v', e = .returned v' ∧ Nt w' v' (a * b)) ∧ Below w.heap.size w w' := by
  by_cases a0 : a = 0
  · subst a0
    obtain ⟨ao, cap, rfl, _⟩ := nt_nil h1
    rw [Nat.zero_mul]
    go_enter Tryz.func116, Tryz.ntmps116
    go_wp2
    go_ret
    exact ⟨⟨_, rfl, nt_zero _⟩, Below.refl _ _⟩
  obtain ⟨b1, o1, c1, rfl, _, _, k1⟩ := nt_one h1 a0 ha
  by_cases b0 : b = 0
  · subst b0
    obtain ⟨ao, cap, rfl, _⟩ := nt_nil h2
    rw [Nat.mul_zero]
    go_enter Tryz.func116, Tryz.ntmps116
    go_wp2
    go_ret
    exact ⟨⟨_, rfl, nt_zero _⟩, Below.refl _ _⟩
  obtain ⟨b2, o2, c2, rfl, _, _, k2⟩ := nt_one h2 b0 hb
  have hP : a * b ≤ 4294967295 * 4294967295 := Nat.mul_le_mul (by omega) (by omega)
  have hmul : IntKind.u64.wrap ((a : Int) * (b : Int)) = ((a * b : Nat) : Int) := by rw [← Int.natCast_mul, IntKind.wrap_u64]; omega
  generalize a * b = P at *
  clear h1 h2
  have hwa : IntKind.u64.wrap (a : Int) = (a : Int) := by rw [IntKind.wrap_u64]; omega
  have hwb : IntKind.u64.wrap (b : Int) = (b : Int) := by rw [IntKind.wrap_u64]; omega
  have hwP : IntKind.u64.wrap (P : Int) = (P : Int) := by rw [IntKind.wrap_u64]; omega
  go_enter Tryz.func116, Tryz.ntmps116
  go_wp2_with (at_make; refine wpList_zeros _ rfl _ _ 162 rfl w.heap.size 41 (.int .u32 0) 4 Tryz.underlying162 Tryz.info86 rfl _ _ _ _ 2 rfl rfl (by omega) (by omega) (by omega) (by unfold maxLen; omega) (by simp) ?_; intro w1 hown1 hb1; have HO1 := hid (show w1.ownsRow w.heap.size 41 1 (.slice (some ⟨w.heap.size, 0, none⟩) 2 2) 2 [.int .u32 0, .int .u32 0] from hown1); have HB1 := hid hb1; clear hown1 hb1)
  have k1 := keeps HB1.out k1
  have k2 := keeps HB1.out k2
  have HSz := hid (show w.heap.size < w1.heap.size from (HO1.out.lt w.heap.size rfl).2)
  have hlow : IntKind.u32.wrap (P : Int) = ((P % 4294967296 : Nat) : Int) := by rw [IntKind.wrap_u32]; omega
  have hhigh : (P : Int) / 4294967296 = ((P / 4294967296 : Nat) : Int) := by omega
  have hlow2 : IntKind.u32.wrap ((P / 4294967296 : Nat) : Int) = ((P / 4294967296 : Nat) : Int) := by rw [IntKind.wrap_u32]; omega
  have HDg := hid (show natv [((P % 4294967296 : Nat) : Int), ((P / 4294967296 : Nat) : Int)] = P ∧ U32 [((P % 4294967296 : Nat) : Int), ((P / 4294967296 : Nat) : Int)] by
    refine ⟨by simp [natv]; omega, fun x hx => ?_⟩
    simp only [List.mem_cons, List.not_mem_nil, or_false] at hx
    rcases hx with rfl | rfl <;> omega)
  generalize P % 4294967296 = L at *
  generalize P / 4294967296 = H at *
  go_loopw [28] (fun i wr => (i = .int .i64 0 ∧ wr = w1) ∨ (i = .int .i64 1 ∧ Hid (wr.ownsRow w.heap.size 41 1 (.slice (some ⟨w.heap.size, 0, none⟩) 2 2) 2 [.int .u32 (L : Int), .int .u32 (H : Int)] ∧ Below w.heap.size w wr))) (fun i _ => 1 - (intOf i).toNat)
  case atStart => exact .inl ⟨rfl, rfl⟩
  case round =>
    rcases hrel with ⟨rfl, rfl⟩ | ⟨rfl, HR⟩
    · go_wp2_with fail
      go_loopw [35, 8] (fun i c wy => (i = .int .i64 0 ∧ c = .int .u64 0 ∧ wy = wr) ∨ (i = .int .i64 1 ∧ c = .int .u64 (H : Int) ∧ Hid (wy.ownsRow w.heap.size 41 1 (.slice (some ⟨w.heap.size, 0, none⟩) 2 2) 2 [.int .u32 (L : Int), .int .u32 0] ∧ Below w.heap.size w wy))) (fun i _ _ => 1 - (intOf i).toNat)
      case atStart => exact .inl ⟨rfl, rfl, rfl⟩
      case round =>
        rcases hrel with ⟨rfl, rfl, rfl⟩ | ⟨rfl, rfl, HR⟩
        · obtain ⟨⟨q0, q1⟩, f0, f1⟩ := two_cells HO1.out
          go_wp2
          go_roundw
          case rel => exact .inr ⟨rfl, rfl, hid ⟨(HO1.out.stored 0 _).1, HB1.out.setCell (Nat.le_refl _) _⟩⟩
          case measure => simp [intOf]
        · obtain ⟨⟨q0, q1⟩, f0, f1⟩ := two_cells HR.out.1
          clear hmul hlow hhigh
          go_wp2
          go_roundw
          case rel => exact .inr ⟨rfl, hid ⟨(HR.out.1.stored 1 _).1, HR.out.2.setCell (Nat.le_refl _) _⟩⟩
          case measure => simp [intOf]
    · have HTr := hid (fun X h => trim_any (.slice (some ⟨w.heap.size, 0, none⟩) 2 2) [(L : Int), (H : Int)] X h HDg.out.2)
      have e := HDg.out.1
      rw [e] at HTr
      clear hmul hlow hhigh e
      go_wp2_with (go_at_call 150; refine (HTr.out _ (Sl.of_owns HR.out.1)).mono ?_; rintro e w5 ⟨⟨v5, rfl, hn⟩, rfl⟩)
      go_ret
      exact ⟨⟨_, rfl, hn⟩, HR.out.2⟩
/-- An integer that is not negative. -/
theorem nat_int (n : Nat) : isg (n : Int) = false ∧ img (n : Int) = nmg n := ⟨by simp [isg], rfl⟩
theorem fits_small {n : Nat} (h : n < 18446744073709551616) : Fits (n : Int) := by
  have := bytesBE_len n 8 (by omega)
  unfold Fits
  show (bytesBE n).length ≤ 200000
  omega
theorem digs_two {n : Nat} (h : n < 18446744073709551616) : (digs n).length ≤ 2 := digs_len_of_lt (by omega)
theorem digsN_any (n : Nat) (w : World) (h : n < 18446744073709551616) :
    Calls Tryz.prog 117 #[.agg #[.bool false, .string (nmg n)]] w fun e w' => (∃ v', e = .returned v' ∧ Nt w' v' n) ∧ Below w.heap.size w w' := by
  have h1 := digitsI_any (n : Int) w (fits_small h).size
  rw [(nat_int n).1, (nat_int n).2] at h1
  exact h1
theorem numberN_any (v : Value) (n : Nat) (w : World) (h : Nt w v n) (hn : n < 18446744073709551616) :
    Calls Tryz.prog 114 #[.bool false, v] w fun e w' => e = .returned (.agg #[.bool false, .string (nmg n)]) ∧ Below w.heap.size w w' := by
  have h1 := number_any false v (digs n) w h (digs_u32 n) (by have := digs_two hn; omega)
  rw [natv_digs, nsg_false] at h1
  exact h1
theorem boxed3 {w w0 : World} {a b c d : Value} (h : ((w.alloc (.cells #[a, b] 56)).alloc (.cells #[c, d] 56)).alloc (.cells #[.bool false, .string ⟨#[]⟩] 56) = w0) : Below w.heap.size w w0 ∧ (w0.cell? ⟨w.heap.size, 0, none⟩ = some a ∧ w0.cell? ⟨w.heap.size, 1, none⟩ = some b ∧ w0.cell? ⟨w.heap.size + 1, 0, none⟩ = some c ∧ w0.cell? ⟨w.heap.size + 1, 1, none⟩ = some d) ∧ w0.heap[w.heap.size + 2]? = some (.cells #[.bool false, .string ⟨#[]⟩] 56 (0, 0)) := by
  subst h
  refine ⟨((bel_alloc _ _).alloc (by simp) _).alloc (by simp; omega) _, ⟨by simp [go_sem], by simp [go_sem], by simp [go_sem], by simp [go_sem]⟩, ?_⟩
  have := heap_alloc_new ((w.alloc (.cells #[a, b] 56)).alloc (.cells #[c, d] 56)) (.cells #[.bool false, .string ⟨#[]⟩] 56)
  simpa [World.size_alloc] using this
theorem far2 {w : World} {b : Nat} {x y v : Value} {a : Addr} (h : w.cell? a = some v) (hne : b ≠ a.block) : ((w.setCell ⟨b, 0, none⟩ x).setCell ⟨b, 1, none⟩ y).cell? a = some v := by
  rw [World.cell?_setCell_far _ _ _ _ hne, World.cell?_setCell_far _ _ _ _ hne]
  exact h
def zeroI (w : World) (b : Nat) : Prop := w.heap[b]? = some (.cells #[.bool false, .string ⟨#[]⟩] 56 (0, 0))
theorem zeroI.below {w w' : World} {b : Nat} (h : zeroI w b) (hb : Below w.heap.size w w') : zeroI w' b := (hb.block b (Array.getElem?_eq_some_iff.1 h).1).trans h
theorem zeroI.lt {w : World} {b : Nat} (h : zeroI w b) : b < w.heap.size := (Array.getElem?_eq_some_iff.1 h).1
theorem zeroI.c {w : World} {b : Nat} (h : zeroI w b) : (w.cell? ⟨b, 0, none⟩ = some (.bool false) ∧ w.cell? ⟨b, 1, none⟩ = some (.string ⟨#[]⟩)) ∧ w.frozen? ⟨b, 0, none⟩ = false ∧ w.frozen? ⟨b, 1, none⟩ = false := by
  refine ⟨⟨?_, ?_⟩, ?_, ?_⟩
  · rw [Lib.cell_of_heap h]; rfl
  · rw [Lib.cell_of_heap h]; rfl
  all_goals exact Lib.frozen_of_heap h _
set_option maxRecDepth 100000 in
set_option maxHeartbeats 4000000 in
theorem mulN_any (a b : Nat) (w : World) (ha : a < 4294967296) (hb : b < 4294967296) :
    Calls Tryz.prog 88 #[.agg #[.bool false, .string (nmg a)], .agg #[.bool false, .string (nmg b)]] w fun e w' => e = .returned (.agg #[.bool false, .string (nmg (a * b))]) ∧ Below w.heap.size w w' := by
  have hP : a * b ≤ 4294967295 * 4294967295 := Nat.mul_le_mul (by omega) (by omega)
  have HDa := hid (fun X => digsN_any a X (by omega))
  have HDb := hid (fun X => digsN_any b X (by omega))
  have HMu := hid (fun v1 v2 X h1 h2 => multiply_small v1 v2 a b X h1 h2 ha hb)
  have HNu := hid (fun v X h => numberN_any v (a * b) X h (by omega))
  generalize hmA : nmg a = mA at *
  generalize hmB : nmg b = mB at *
  generalize a * b = P at *
  clear hmA hmB
  go_enter Tryz.func88, Tryz.ntmps88
  go_upto_region 1 with fail
  obtain ⟨w0, hw0⟩ : ∃ w0, ((w.alloc (.cells #[.bool false, .string mA] 56)).alloc (.cells #[.bool false, .string mB] 56)).alloc (.cells #[.bool false, .string ⟨#[]⟩] 56) = w0 := ⟨_, rfl⟩
  obtain ⟨hb0, ⟨c0, c1, c2, c3⟩, hz⟩ := boxed3 hw0
  rw [hw0]
  have HB0 := hid hb0
  have HZ0 := hid (show zeroI w0 (w.heap.size + 2) from hz)
  clear hw0 hb0 hz
  have hbd : Below w0.heap.size w0 w0.drew := below_drewN (Below.refl _ _) 1
  have HBd := hid hbd
  have HZd := hid (HZ0.out.below hbd)
  clear hbd
  go_region_held3 (fun w' => w'.cell? ⟨w.heap.size, 0, none⟩ = some (.bool false) ∧ w'.cell? ⟨w.heap.size, 1, none⟩ = some (.string mA) ∧ w'.cell? ⟨w.heap.size + 1, 0, none⟩ = some (.bool false) ∧ w'.cell? ⟨w.heap.size + 1, 1, none⟩ = some (.string mB))
    (first | exact ⟨c0, c1, c2, c3⟩ | exact ⟨far2 c0 (by show w.heap.size + 1 + 1 ≠ w.heap.size; omega), far2 c1 (by show w.heap.size + 1 + 1 ≠ w.heap.size; omega), far2 c2 (by show w.heap.size + 1 + 1 ≠ w.heap.size + 1; omega), far2 c3 (by show w.heap.size + 1 + 1 ≠ w.heap.size + 1; omega)⟩ | go_keep)
    (first
      | (have _g := HM3.out; clear _g; go_at_call 114; refine (HNu.out _ _ HM3.out).mono ?_; rintro e w4 ⟨rfl, hb4⟩; have HB4 := hid (bel_step HB3.out hb4); obtain ⟨⟨z0, z1⟩, g0, g1⟩ := (HZ3.out.below hb4).c; have c0 := keeps hb4 c0; have c1 := keeps hb4 c1; have c2 := keeps hb4 c2; have c3 := keeps hb4 c3; clear hb4)
      | (have _g := HN2.out; clear _g; go_at_call 116; refine (HMu.out _ _ _ HN1.out HN2.out).mono ?_; rintro e w3 ⟨⟨v3, rfl, hn3⟩, hb3⟩; have HM3 := hid hn3; have HB3 := hid (bel_step HB2.out hb3); have HZ3 := hid (HZ2.out.below hb3); have c0 := keeps hb3 c0; have c1 := keeps hb3 c1; have c2 := keeps hb3 c2; have c3 := keeps hb3 c3; clear hn3 hb3)
      | (have _g := HN1.out; clear _g; go_at_call 117; refine (HDb.out _).mono ?_; rintro e w2 ⟨⟨v2, rfl, hn2⟩, hb2⟩; have HN2 := hid hn2; have HN1 := hid (HN1.out.below hb2); have HB2 := hid (bel_step HB1.out hb2); have HZ2 := hid (HZ1.out.below hb2); have c0 := keeps hb2 c0; have c1 := keeps hb2 c1; have c2 := keeps hb2 c2; have c3 := keeps hb2 c3; clear hn2 hb2)
      | (go_at_call 117; refine (HDa.out _).mono ?_; rintro e w1 ⟨⟨v1, rfl, hn1⟩, hb1⟩; have HN1 := hid hn1; have HB1 := hid (bel_step (bel_step HB0.out HBd.out) hb1); have HZ1 := hid (HZd.out.below hb1); have c0 := keeps hb1 c0; have c1 := keeps hb1 c1; have c2 := keeps hb1 c2; have c3 := keeps hb1 c3; clear hn1 hb1))
  go_wp2
  refine bodyPost_ret (v := .agg #[.bool false, .string (nmg P)]) ?_ rfl ⟨rfl, ?_⟩
  · simp [results, Tryz.results88, go_sem, z0, z1]
  · exact (HB4.out.setCell (by show w.heap.size ≤ w.heap.size + 1 + 1; omega) _).setCell (by show w.heap.size ≤ w.heap.size + 1 + 1; omega) _
theorem one_cell {w : World} {base g c : Nat} {T : TypeId} {x : Value} (h : w.ownsRow base T 1 (.slice (some ⟨g, 0, none⟩) 1 c) 1 [x]) : w.cell? ⟨g, 0, none⟩ = some x ∧ w.frozen? ⟨g, 0, none⟩ = false := by
  obtain ⟨b, o, e1, h1⟩ := (Sl.of_owns h).cell (k := 0) (x := x) rfl
  cases e1
  refine ⟨h1, ?_⟩
  rcases h.2 with ⟨h2, _⟩ | ⟨g', cap, cur, hv, _, hh, _⟩
  · cases h2
  · cases hv
    exact Lib.frozen_of_heap hh _
theorem nt_lit (w : World) (n : Nat) (h : n < 4294967296) : Sl 1 (w.alloc (.cells #[.int .u32 (n : Int)] 41)) (.slice (some ⟨w.heap.size, 0, none⟩) 1 1) 1 (u32s [(n : Int)]) := by
  refine ⟨_, 1, rfl, rfl, by omega, by omega, .inr ⟨_, 0, rfl, fun j u hj => ?_⟩⟩
  rw [cell_of_row _ w.heap.size (0 + j) _ 41 (0, 0) (heap_alloc_new w _), Nat.zero_add]
  simpa [u32s] using hj
theorem natv_one (n : Nat) : natv [(n : Int)] = n := by simp [natv]
theorem u32_one {n : Nat} (h : n < 4294967296) : U32 [(n : Int)] := by
  intro x hx
  simp only [List.mem_cons, List.not_mem_nil, or_false] at hx
  subst hx; omega
set_option maxRecDepth 100000 in
set_option maxHeartbeats 4000000 in
theorem short_small (v1 : Value) (a b : Nat) (w : World) (h1 : Nt w v1 a) (ha : a < 4294967296) (a0 : a ≠ 0) (hb : b < 4294967296) (b0 : b ≠ 0) :
    Calls Tryz.prog 172 #[v1, .int .u32 (b : Int)] w fun e w' => (∃ v', e = .returned (.tuple #[v', .int .u32 ((a % b : Nat) : Int)]) ∧ Nt w' v' (a / b)) ∧ Below w.heap.size w w' := by
  obtain ⟨b1, o1, c1, rfl, _, _, k1⟩ := nt_one h1 a0 ha
  clear h1
  have hwa : IntKind.u64.wrap (a : Int) = (a : Int) := by rw [IntKind.wrap_u64]; omega
  have hwb : IntKind.u64.wrap (b : Int) = (b : Int) := by rw [IntKind.wrap_u64]; omega
  have hbz : ¬ (b : Int) = 0 := by omega
  have hor : bits .or .u64 0 (a : Int) = (a : Int) := by
    have h := bits_join .u64 63 (by decide) (fun n h1 h2 => by rw [IntKind.wrap_u64]; omega) 32 0 (a : Int) (by omega) (by omega) (by omega) (by omega) (by omega) (by omega)
    rw [h]; omega
  have hql : a / b ≤ a := Nat.div_le_self _ _
  have hrl : a % b < b := Nat.mod_lt _ (by omega)
  have hq1 : (a : Int).tdiv (b : Int) = ((a / b : Nat) : Int) := rfl
  have hr1 : (a : Int).tmod (b : Int) = ((a % b : Nat) : Int) := rfl
  have hq2 : (a : Int) / (b : Int) = ((a / b : Nat) : Int) := rfl
  have hr2 : (a : Int) % (b : Int) = ((a % b : Nat) : Int) := rfl
  generalize a / b = q at *
  generalize a % b = r at *
  have hwq : IntKind.u32.wrap (q : Int) = (q : Int) := by rw [IntKind.wrap_u32]; omega
  have hwr : IntKind.u32.wrap (r : Int) = (r : Int) := by rw [IntKind.wrap_u32]; omega
  have hwq4 : IntKind.u64.wrap (q : Int) = (q : Int) := by rw [IntKind.wrap_u64]; omega
  have HDg := hid (show natv [(q : Int)] = q ∧ U32 [(q : Int)] by
    refine ⟨by simp [natv], fun x hx => ?_⟩
    simp only [List.mem_cons, List.not_mem_nil, or_false] at hx
    subst hx; omega)
  go_enter Tryz.func172, Tryz.ntmps172
  go_wp2_with (at_make; refine wpList_zeros _ rfl _ _ 162 rfl w.heap.size 41 (.int .u32 0) 4 Tryz.underlying162 Tryz.info86 rfl _ _ _ _ 1 rfl rfl (by omega) (by omega) (by omega) (by unfold maxLen; omega) (by simp) ?_; intro w1 hown1 hb1; have HO1 := hid (show w1.ownsRow w.heap.size 41 1 (.slice (some ⟨w.heap.size, 0, none⟩) 1 1) 1 [.int .u32 0] from hown1); have HB1 := hid hb1; clear hown1 hb1)
  have k1 := keeps HB1.out k1
  go_loopw [8, 7] (fun i c wr => (i = .int .i64 0 ∧ c = .int .u64 0 ∧ wr = w1) ∨ (i = .int .i64 (-1) ∧ c = .int .u64 (r : Int) ∧ Hid (wr.ownsRow w.heap.size 41 1 (.slice (some ⟨w.heap.size, 0, none⟩) 1 1) 1 [.int .u32 (q : Int)] ∧ Below w.heap.size w wr))) (fun i _ _ => (1 + intOf i).toNat)
  case atStart => exact .inl ⟨rfl, rfl, rfl⟩
  case round =>
    rcases hrel with ⟨rfl, rfl, rfl⟩ | ⟨rfl, rfl, HR⟩
    · obtain ⟨q0, f0⟩ := one_cell HO1.out
      go_wp2_with fail
      go_region_held3 (fun _ => True) (trivial) (fail)
      go_wp2
      go_roundw
      case rel => exact .inr ⟨rfl, rfl, hid ⟨own_drewN (HO1.out.stored 0 _).1 1, below_drewN (HB1.out.setCell (Nat.le_refl _) _) 1⟩⟩
      case measure => simp [intOf]
    · have HTr := hid (fun X h => trim_any (.slice (some ⟨w.heap.size, 0, none⟩) 1 1) [(q : Int)] X h HDg.out.2)
      have e := HDg.out.1
      rw [e] at HTr
      clear hq1 hr1 hq2 hr2 hor e
      go_wp2_with (go_at_call 150; refine (HTr.out _ (Sl.of_owns HR.out.1)).mono ?_; rintro e w5 ⟨⟨v5, rfl, hn⟩, rfl⟩)
      go_ret2
      exact ⟨⟨_, rfl, hn⟩, HR.out.2⟩
set_option maxRecDepth 100000 in
set_option maxHeartbeats 4000000 in
theorem divide_small (v1 v2 : Value) (a b : Nat) (w : World) (h1 : Nt w v1 a) (h2 : Nt w v2 b) (ha : a < 4294967296) (hb : b < 4294967296) (b0 : b ≠ 0) :
    Calls Tryz.prog 165 #[v1, v2] w fun e w' => (∃ vq vr, e = .returned (.tuple #[vq, vr]) ∧ Nt w' vq (a / b) ∧ Nt w' vr (a % b)) ∧ Below w.heap.size w w' := by
  have HCm := hid (compareN_any v1 v2 a b w h1 h2)
  have H1 := hid h1
  obtain ⟨b2, o2, c2, rfl, _, _, k2⟩ := nt_one h2 b0 hb
  clear h2
  have h1' := h1
  obtain ⟨ao, cp, rfl, _, _, _, _⟩ := h1'
  clear h1
  generalize (digs a).length = dl at *
  by_cases hl : a < b
  · have hc : cmpN a b = -1 := by rw [cmpN, if_pos hl]
    rw [hc] at HCm
    have hq : a / b = 0 := Nat.div_eq_of_lt hl
    have hr : a % b = a := Nat.mod_eq_of_lt hl
    rw [hq, hr]
    clear hq hr hc
    go_enter Tryz.func165, Tryz.ntmps165
    go_wp2_with (go_at_call 168; refine HCm.out.mono ?_; rintro e w1 ⟨rfl, hD⟩; have HB1 := hid (hD.below w.heap.size))
    go_ret2
    exact ⟨⟨_, _, rfl, nt_zero _, H1.out.below HB1.out⟩, HB1.out⟩
  · have a0 : a ≠ 0 := by omega
    have hc : decide (cmpN a b < 0) = false := by rw [cmpN, if_neg hl]; split <;> simp
    have HSh := hid (fun X h => short_small (.slice ao dl cp) a b X h ha a0 hb b0)
    have hr : a % b < b := Nat.mod_lt _ (by omega)
    generalize a % b = r at *
    generalize a / b = q at *
    have HTr := hid (fun v X h => trim_any v [(r : Int)] X h (u32_one (by omega)))
    rw [natv_one] at HTr
    generalize cmpN a b = C at *
    have HLt := hid (show r < 4294967296 by omega)
    clear hl
    go_enter Tryz.func165, Tryz.ntmps165
    go_wp2_with (first
      | (go_at_call 168; refine HCm.out.mono ?_; rintro e w1 ⟨rfl, hD⟩; have HB1 := hid (hD.below w.heap.size); have k2 := keeps HB1.out k2; clear hD)
      | (go_at_call 172; refine (HSh.out _ (H1.out.below HB1.out)).mono ?_; rintro e w2 ⟨⟨vq, rfl, hq⟩, hb2⟩; have HQ2 := hid hq; have HB2 := hid (bel_step HB1.out hb2); clear hq hb2)
      | (go_at_call 150; refine (HTr.out _ _ (nt_lit w2 r HLt.out)).mono ?_; rintro e w5 ⟨⟨v5, rfl, hn⟩, rfl⟩))
    go_ret2
    exact ⟨⟨_, _, rfl, HQ2.out.below (bel_alloc _ _), hn⟩, bel_step HB2.out (bel_alloc _ _)⟩
end Go.Proofs.YtieahckbbohfgaaGreatDoor
