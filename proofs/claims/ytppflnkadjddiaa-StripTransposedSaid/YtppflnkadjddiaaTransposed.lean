/-
  The walk of StripTransposed: it returns true, and writes nothing that was there.
  No condition beyond what the arguments' types say.
-/
import Derived.Test.YtppflnkadjddiaaTranspose
import Derived.Test.YtppflnkadjddiaaTurned
namespace Go.Proofs.Ytppflnkadjddiaa
open Go.RowKit
set_option linter.unusedVariables false

theorem validT (H : Nat) (C b : List Int) (v1 v2 : Value) (w : World) (h2 : 2 ≤ H) (h4 : H ≤ 4) (w2 : 2 ≤ C.length) (w4 : C.length ≤ 4) (ha : C.all (okCol (H : Int)) = true) (hl : Sl 1 w v1 (trL b).length (ints (trL b))) (hr : Sl 1 w v2 (turnL (rowsGo (H : Int) C H)).length (strs (turnL (rowsGo (H : Int) C H)))) :
    Calls Try.prog 20 #[v1, v2] w fun e w' => e = .returned (.tuple #[.bool (adj (okP (H : Int) b) C), .int .i64 0]) ∧ Below w.heap.size w w' := by
  have hlen : (turnL (rowsGo (H : Int) C H)).length = C.length := by simp [turnL, width_rowsGo (h := (H : Int)) (c := C) (n := H) (by omega)]
  have := valid_any v1 v2 (trL b) (turnL (rowsGo (H : Int) C H)) w hl hr (by omega)
  unfold ValidPost at this
  rwa [(turned_valid h2 h4 w2 w4 ha).1, (turned_valid h2 h4 w2 w4 ha).2] at this
theorem equalT (l m : List Int) (he : l = m) (v1 v2 : Value) (w : World) (h1 : Sl 1 w v1 l.length (ints l)) (h2 : Sl 1 w v2 m.length (ints m)) :
    Calls Try.prog 14 #[v1, v2] w fun e w' => e = .returned (.bool true) ∧ Below w.heap.size w w' := by
  subst he
  exact equalI l v1 v2 w h1 h2

set_option maxRecDepth 100000 in
set_option maxHeartbeats 4000000 in
theorem stripTransposed_any (a s : Int) (v : Value) (l : List Int) (w : World) (ha0 : 0 ≤ a) (ha1 : a ≤ 255) (s0 : 0 ≤ s) (s1 : s ≤ 65535) (hl : Sl 1 w v l.length (l.map (.int .u8))) (hb : ∀ x ∈ l, 0 ≤ x ∧ x ≤ 255) :
    Calls Try.prog 7 #[.int .u8 a, .int .u16 s, v] w fun e w' => e = .returned (.bool true) ∧ Below w.heap.size w w' := by
  have HS := hid hl
  obtain ⟨ao, cap, rfl, _, hc1, hm1, hs⟩ := hl
  clear hs
  have HB := hid hb
  clear hb
  by_cases h24 : 2 ≤ l.length ∧ l.length ≤ 4
  · obtain ⟨W2, W4⟩ := h24
    obtain ⟨H, hh⟩ : ∃ H : Nat, a % 3 + 2 = (H : Int) := ⟨(a % 3 + 2).toNat, by omega⟩
    have h2 : 2 ≤ H := by omega
    have h4 : H ≤ 4 := by omega
    have HC := hid (okCol_colsOf (H : Int) l (by omega) (by omega))
    have HL := hid (colsOf_len (H : Int) l)
    have HK := hid (chk_blkOf (H : Int) s (by omega) (by omega))
    have HKT := hid (chk_trL (l.length : Int) (blkOf (H : Int) s) (by omega) (by omega))
    have HTT := hid (trL_trL (H : Int) s)
    have HTL := hid (trL_len (H : Int) s)
    have HCnt := hid (cnt_turned h2 W2 (blkOf (H : Int) s))
    go_enter Try.func7, Try.ntmps7
    go_upto_region 5 with (first
      | (go_at_call 24; refine (lawBlocks_any _ _ _ ?_ ?_).mono ?_; (omega); (omega); rintro e w1 ⟨vb, rfl, hob, hb1⟩; have hSb := Sl.of_owns hob; clear hob; obtain ⟨aob, capb, rfl, hq1⟩ := id hSb; clear hq1)
      | (go_at_call 11; refine (numbers_any _ _ l _ ?_ ?_ (HS.out.below hb1) HB.out ?_).mono ?_; (omega); (omega); (omega); rintro e w2 ⟨v1, rfl, ho1, hb2⟩; have hS1 := Sl.of_owns ho1; clear ho1; obtain ⟨ao1, cap1, rfl, hq1⟩ := id hS1; clear hq1))
    have hSb := hSb.below hb2
    have hbel := bel_step hb1 hb2
    rw [← HL.out] at hS1 W2 W4 HKT HCnt ⊢
    generalize blkOf (H : Int) s = b at *
    generalize colsOf (H : Int) l = C at *
    clear hb1 hb2
    go_upto_region 6 with (go_at_call 27; refine (transpose_any _ b _ hSb).mono ?_; rintro e w3 ⟨vc, rfl, hoc, hb3⟩; have hSc := Sl.of_owns hoc; clear hoc; obtain ⟨aoc, capc, rfl, hq1⟩ := id hSc; clear hq1)
    have hSb := hSb.below hb3
    have hS1 := hS1.below hb3
    have hbel := bel_step hbel hb3
    clear hb3
    go_upto_region 7 with (go_at_call 12; refine (rowsR (H : Int) C _ _ (by omega) (by omega) (by omega) HC.out ?_).mono ?_; (exact hS1); rintro e w4 ⟨v4, rfl, hS4, hb4⟩)
    have hSb := hSb.below hb4
    have hSc := hSc.below hb4
    have hbel := bel_step hbel hb4
    clear hb4 hS1
    go_upto_region 8 with (go_at_call 20; refine (validR (H : Int) C b _ _ _ (by omega) (by omega) (by omega) HC.out HK.out ?_ ?_).mono ?_; (exact hSb); (exact hS4); rintro e w5 ⟨rfl, hb5⟩)
    have hSb := hSb.below hb5
    have hSc := hSc.below hb5
    have hS4 := hS4.below hb5
    have hbel := bel_step hbel hb5
    clear hb5
    rw [Int.toNat_natCast] at hS4
    have hwr : width (rowsGo (H : Int) C H) ≤ 100000 := by rw [width_rowsGo (by omega)]; omega
    have hrl : (rowsGo (H : Int) C H).length ≤ 1000 := by rw [rowsGo_len]; omega
    go_upto_region 9 with (first
      | (go_at_call 28; refine (turned_any _ (rowsGo (H : Int) C H) _ hS4 hrl hwr).mono ?_; rintro e w6 ⟨v6, rfl, ho6, hb6⟩; have hS6 := Sl.of_owns ho6; clear ho6; have hSc := hSc.below hb6)
      | (go_at_call 20; refine (validT H C b _ _ _ h2 h4 W2 W4 HC.out ?_ ?_).mono ?_; (exact hSc); (exact hS6); rintro e w7 ⟨rfl, hb7⟩))
    have hSb := (hSb.below hb6).below hb7
    have hSc := hSc.below hb7
    have hbel := bel_step (bel_step hbel hb6) hb7
    clear hb6 hb7 hS6 hS4 hwr hrl
    obtain ⟨A, hA⟩ : ∃ A, A = cntTo (rects (H : Int) b C.length) ((side (H : Int)).toNat ^ C.length) := ⟨_, rfl⟩
    have R1 : ∀ (v : Value) (w : World), Sl 1 w v b.length (ints b) → Calls Try.prog 22 #[.int .i64 (H : Int), .int .i64 (C.length : Int), v] w fun e w' => e = .returned (.tuple #[.agg #[.bool false, .string (nmg A)], .int .i64 0]) ∧ Below w.heap.size w w' := by
      intro v w hl
      have := countR (H : Int) (C.length : Int) v _ w hl HK.out (by omega) (by omega)
      rwa [Int.toNat_natCast, ← hA] at this
    have R2 : ∀ (v : Value) (w : World), Sl 1 w v (trL b).length (ints (trL b)) → Calls Try.prog 22 #[.int .i64 (C.length : Int), .int .i64 (H : Int), v] w fun e w' => e = .returned (.tuple #[.agg #[.bool false, .string (nmg A)], .int .i64 0]) ∧ Below w.heap.size w w' := by
      intro v w hl
      have := countR (C.length : Int) (H : Int) v _ w hl HKT.out (by omega) (by omega)
      rwa [Int.toNat_natCast, ← HCnt.out, ← hA] at this
    have HR1 := hid R1
    have HR2 := hid R2
    clear R1 R2 hA
    go_upto_region 10 with (go_at_call 22; refine (HR1.out _ _ hSb).mono ?_; rintro e w8 ⟨rfl, hb8⟩)
    have hB2 : Below w8.heap.size w8 (w8.alloc (.cells #[.bool false, .string (nmg A)] 41)) := (Below.refl _ _).alloc (Nat.le_refl _) _
    have hBB := bel_step hb8 hB2
    have hn1 := num_new w8 A
    have hSb := hSb.below hBB
    have hSc := hSc.below hBB
    have hbel := bel_step hbel hBB
    clear hb8 hB2 hBB
    generalize w8.alloc (.cells #[.bool false, .string (nmg A)] 41) = w9 at *
    generalize w8.heap.size = g1 at *
    go_upto_region 11 with (go_at_call 22; refine (HR2.out _ _ hSc).mono ?_; rintro e w10 ⟨rfl, hb10⟩)
    have hB2 : Below w10.heap.size w10 (w10.alloc (.cells #[.bool false, .string (nmg A)] 41)) := (Below.refl _ _).alloc (Nat.le_refl _) _
    have hBB := bel_step hb10 hB2
    have hn2 := num_new w10 A
    have hn1 := hn1.keep hBB
    have hSb := hSb.below hBB
    have hSc := hSc.below hBB
    have hbel := bel_step hbel hBB
    clear hb10 hB2 hBB
    generalize w10.alloc (.cells #[.bool false, .string (nmg A)] 41) = w11 at *
    generalize w10.heap.size = g2 at *
    obtain ⟨x1, x2⟩ := hn1
    obtain ⟨y1, y2⟩ := hn2
    have hlen : (((trL b).length : Int) == (b.length : Int)) = true := by rw [HTL.out]; simp
    have HSb := hid hSb
    have HSc := hid hSc
    have HBel := hid hbel
    clear hSb hSc hbel
    have hmax : ∀ w', (Builtin.max_ #[27, 27, 27, 27, 27] 27 #[.int .i64 0, .int .i64 0, .int .i64 0, .int .i64 0, .int .i64 0]).run Try.prog w' = .ok (.int .i64 0) w' := fun _ => rfl
    generalize adj (okP (H : Int) b) C = q at *
    cases q
    all_goals
      go_wp2_with (first
        | (go_at_call 27; refine (transpose_any _ (trL b) _ HSc.out).mono ?_; rintro e w12 ⟨vd, rfl, hod, hb12⟩; have hSd := Sl.of_owns hod; clear hod)
        | (go_at_call 14; refine (equalT (trL (trL b)) b HTT.out _ _ _ hSd (HSb.out.below hb12)).mono ?_; rintro e w13 ⟨rfl, hb13⟩)
        | (go_at_call 10; refine (awake_any _).mono ?_; rintro e w14 ⟨rfl, hb14⟩))
      go_ret
      exact ⟨rfl, bel_step (bel_step (bel_step HBel.out hb12) hb13) hb14⟩
  · by_cases h2 : l.length < 2
    · go_enter Try.func7, Try.ntmps7
      go_wp2_with (go_at_call 10; refine (awake_any _).mono ?_; rintro e w1 ⟨rfl, hb⟩)
      go_ret
      exact ⟨rfl, hb⟩
    · have h3 : 2 ≤ l.length := by omega
      have h5 : 4 < l.length := by omega
      clear h24
      go_enter Try.func7, Try.ntmps7
      go_wp2_with (go_at_call 10; refine (awake_any _).mono ?_; rintro e w1 ⟨rfl, hb⟩)
      go_ret
      exact ⟨rfl, hb⟩
end Go.Proofs.Ytppflnkadjddiaa
