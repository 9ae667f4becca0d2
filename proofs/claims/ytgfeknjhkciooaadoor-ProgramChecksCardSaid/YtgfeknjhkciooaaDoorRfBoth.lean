/-
  The reference's reducer: both. (Printed by wip/tools/refboth.py.)
  The code lies in a row that the caller owns; not longer than 100000.
-/
import Derived.Test.YtgfeknjhkciooaaDoorRfNot
namespace Go.Proofs.YtgfeknjhkciooaaDoor
open Go.RowKit Go.Deep
set_option linter.unusedVariables false

set_option maxRecDepth 100000 in
set_option maxHeartbeats 4000000 in
theorem rboth3N (B N : Nat) (v : Value) (C : List Ins) (a b : Int) (w : World) (h : w.ownsRow B 41 3 v C.length (icells C)) (hB : B ≤ w.heap.size) (hl : C.length ≤ 100000) (hN : N ≤ 24) (ha : -2 ≤ a) (ha2 : a < ((N + C.length : Nat) : Int)) (hb : -2 ≤ b) (hb2 : b < ((N + C.length : Nat) : Int)) (hs : ¬ b < a) :
    Calls Tryd.prog 49 #[.agg #[.int .i64 N, v], .int .i64 3, .int .i64 a, .int .i64 b] w (EPost B N w v (andC N C a b) (andV N C a b)) := by
  have HO := hid h
  have HB := hid hB
  obtain ⟨av, cv, rfl⟩ := own_slice h
  obtain ⟨_, _, e0, _, hcc1, hcc2, _⟩ := Sl.of_owns h
  simp only [Value.slice.injEq, true_and] at e0
  obtain ⟨rfl, rfl⟩ := e0
  clear h hB
  have HEm := hid (fun X h1 h2 => remit_any B N (.slice av C.length cv) C 3 a b X h1 h2 hl hN)
  by_cases a2 : a = -2
  · have HV := hid (show andV N C a b = -2 by rw [andV, if_pos (.inl a2), a2])
    have HC := hid (show andC N C a b = C by rw [andC, if_pos (.inl a2)])
    rw [HV.out, HC.out]
    clear HV HC
    go_enter Tryd.func49, Tryd.ntmps49
    go_upto_region 1 with fail
    obtain ⟨w3, hw3⟩ : ∃ w3, (w.alloc (.cells #[.int .i64 N, .slice av C.length cv] 96)).alloc (.cells #[.int .i64 0, .slice none 0 0] 96) = w3 := ⟨_, rfl⟩
    obtain ⟨hb3, k1, k2, hs3⟩ := two_lay hw3
    rw [hw3]
    have r0 := blk_cell (j := 0) k1 rfl
    have r1 := blk_cell (j := 1) k1 rfl
    have z0 := blk_cell (j := 0) k2 rfl
    have z1 := blk_cell (j := 1) k2 rfl
    have f0 := blk_frozen (j := 0) k2
    have f1 := blk_frozen (j := 1) k2
    have HK := hid k2
    have HB3 := hid hb3
    have HL3 := hid (show w.heap.size + 1 < w3.heap.size by omega)
    clear hw3 k1 k2 hb3 hs3
    go_wp2_with fail
    obtain ⟨h1, h2⟩ := fin_own (B := B) (N := N) (x := .int .i64 N) (y := .slice av C.length cv) (own_below HO.out HB3.out) (grown_of (row := (Value.slice av C.length cv).ownBlock) HB3.out (Nat.le_refl _)) (by omega : w.heap.size ≤ w.heap.size + 1) HK.out
    refine bodyPost_ret (v := .tuple #[.agg #[.int .i64 N, .slice av C.length cv], .int .i64 (-2)]) ?_ rfl ⟨.slice av C.length cv, ?_, ?_, h2⟩
    · simp [results, Tryd.results49, go_sem, z0, z1]
    · rfl
    · exact h1
  have q2 : (a == -2) = false := by simpa using a2
  by_cases a1 : a = -1
  · have HV := hid (show andV N C a b = b by
      rw [andV]
      by_cases e : a = b
      · rw [if_pos (.inr e), e]
      · rw [if_neg (by omega), if_pos a1])
    have HC := hid (show andC N C a b = C by
      rw [andC]
      by_cases e : a = b
      · rw [if_pos (.inr e)]
      · rw [if_neg (by omega), if_pos a1])
    rw [HV.out, HC.out]
    clear HV HC
    go_enter Tryd.func49, Tryd.ntmps49
    go_upto_region 1 with fail
    obtain ⟨w3, hw3⟩ : ∃ w3, (w.alloc (.cells #[.int .i64 N, .slice av C.length cv] 96)).alloc (.cells #[.int .i64 0, .slice none 0 0] 96) = w3 := ⟨_, rfl⟩
    obtain ⟨hb3, k1, k2, hs3⟩ := two_lay hw3
    rw [hw3]
    have r0 := blk_cell (j := 0) k1 rfl
    have r1 := blk_cell (j := 1) k1 rfl
    have z0 := blk_cell (j := 0) k2 rfl
    have z1 := blk_cell (j := 1) k2 rfl
    have f0 := blk_frozen (j := 0) k2
    have f1 := blk_frozen (j := 1) k2
    have HK := hid k2
    have HB3 := hid hb3
    have HL3 := hid (show w.heap.size + 1 < w3.heap.size by omega)
    clear hw3 k1 k2 hb3 hs3
    go_wp2_with fail
    obtain ⟨h1, h2⟩ := fin_own (B := B) (N := N) (x := .int .i64 N) (y := .slice av C.length cv) (own_below HO.out HB3.out) (grown_of (row := (Value.slice av C.length cv).ownBlock) HB3.out (Nat.le_refl _)) (by omega : w.heap.size ≤ w.heap.size + 1) HK.out
    refine bodyPost_ret (v := .tuple #[.agg #[.int .i64 N, .slice av C.length cv], .int .i64 (b)]) ?_ rfl ⟨.slice av C.length cv, ?_, ?_, h2⟩
    · simp [results, Tryd.results49, go_sem, z0, z1]
    · rfl
    · exact h1
  have q1 : (a == -1) = false := by simpa using a1
  by_cases ae : a = b
  · have HV := hid (show andV N C a b = b by rw [andV, if_pos (.inr ae), ae])
    have HC := hid (show andC N C a b = C by rw [andC, if_pos (.inr ae)])
    rw [HV.out, HC.out]
    clear HV HC
    go_enter Tryd.func49, Tryd.ntmps49
    go_upto_region 1 with fail
    obtain ⟨w3, hw3⟩ : ∃ w3, (w.alloc (.cells #[.int .i64 N, .slice av C.length cv] 96)).alloc (.cells #[.int .i64 0, .slice none 0 0] 96) = w3 := ⟨_, rfl⟩
    obtain ⟨hb3, k1, k2, hs3⟩ := two_lay hw3
    rw [hw3]
    have r0 := blk_cell (j := 0) k1 rfl
    have r1 := blk_cell (j := 1) k1 rfl
    have z0 := blk_cell (j := 0) k2 rfl
    have z1 := blk_cell (j := 1) k2 rfl
    have f0 := blk_frozen (j := 0) k2
    have f1 := blk_frozen (j := 1) k2
    have HK := hid k2
    have HB3 := hid hb3
    have HL3 := hid (show w.heap.size + 1 < w3.heap.size by omega)
    clear hw3 k1 k2 hb3 hs3
    go_wp2_with fail
    obtain ⟨h1, h2⟩ := fin_own (B := B) (N := N) (x := .int .i64 N) (y := .slice av C.length cv) (own_below HO.out HB3.out) (grown_of (row := (Value.slice av C.length cv).ownBlock) HB3.out (Nat.le_refl _)) (by omega : w.heap.size ≤ w.heap.size + 1) HK.out
    refine bodyPost_ret (v := .tuple #[.agg #[.int .i64 N, .slice av C.length cv], .int .i64 (b)]) ?_ rfl ⟨.slice av C.length cv, ?_, ?_, h2⟩
    · simp [results, Tryd.results49, go_sem, z0, z1]
    · rfl
    · exact h1
  have qe : (a == b) = false := by simpa using ae
  have HV := hid (show andV N C a b = putV N C ⟨3, a, b⟩ by rw [andV, if_neg (by omega), if_neg a1])
  have HC := hid (show andC N C a b = putC C ⟨3, a, b⟩ by rw [andC, if_neg (by omega), if_neg a1])
  rw [HV.out, HC.out]
  clear HV HC
  go_enter Tryd.func49, Tryd.ntmps49
  go_upto_region 1 with fail
  obtain ⟨w3, hw3⟩ : ∃ w3, (w.alloc (.cells #[.int .i64 N, .slice av C.length cv] 96)).alloc (.cells #[.int .i64 0, .slice none 0 0] 96) = w3 := ⟨_, rfl⟩
  obtain ⟨hb3, k1, k2, hs3⟩ := two_lay hw3
  rw [hw3]
  have r0 := blk_cell (j := 0) k1 rfl
  have r1 := blk_cell (j := 1) k1 rfl
  have z0 := blk_cell (j := 0) k2 rfl
  have z1 := blk_cell (j := 1) k2 rfl
  have f0 := blk_frozen (j := 0) k2
  have f1 := blk_frozen (j := 1) k2
  have HK := hid k2
  have HB3 := hid hb3
  have HL3 := hid (show w.heap.size + 1 < w3.heap.size by omega)
  clear hw3 k1 k2 hb3 hs3
  go_wp2_with (go_at_call 92; refine (HEm.out w3 (own_below HO.out HB3.out) (by have := HB.out; have := HL3.out; omega)).mono ?_; rintro e w5 ⟨v5, rfl, ho5, hg5⟩; obtain ⟨a5, c5, rfl⟩ := own_slice ho5; have k5 := (hg5.block (w.heap.size + 1) HL3.out (own_grown_ne (own_below HO.out HB3.out) HK.out)).trans HK.out; have z0 := blk_cell (j := 0) k5 rfl; have z1 := blk_cell (j := 1) k5 rfl; have f0 := blk_frozen (j := 0) k5; have f1 := blk_frozen (j := 1) k5; have HK5 := hid k5; have HO5 := hid ho5; have HG5 := hid (grown_trans (grown_of (row := (Value.slice av C.length cv).ownBlock) HB3.out (Nat.le_refl _)) hg5); clear k5 ho5 hg5)
  obtain ⟨h1, h2⟩ := fin_own (B := B) (N := N) (x := .int .i64 N) (y := .slice a5 (putC C ⟨3, a, b⟩).length c5) HO5.out HG5.out (by omega : w.heap.size ≤ w.heap.size + 1) HK5.out
  refine bodyPost_ret (v := .tuple #[.agg #[.int .i64 N, .slice a5 (putC C ⟨3, a, b⟩).length c5], .int .i64 (putV N C ⟨3, a, b⟩)]) ?_ rfl ⟨.slice a5 (putC C ⟨3, a, b⟩).length c5, ?_, ?_, h2⟩
  · simp [results, Tryd.results49, go_sem, z0, z1]
  · rfl
  · exact h1
set_option maxRecDepth 100000 in
set_option maxHeartbeats 4000000 in
theorem rboth3S (B N : Nat) (v : Value) (C : List Ins) (a b : Int) (w : World) (h : w.ownsRow B 41 3 v C.length (icells C)) (hB : B ≤ w.heap.size) (hl : C.length ≤ 100000) (hN : N ≤ 24) (ha : -2 ≤ a) (ha2 : a < ((N + C.length : Nat) : Int)) (hb : -2 ≤ b) (hb2 : b < ((N + C.length : Nat) : Int)) (hs : b < a) :
    Calls Tryd.prog 49 #[.agg #[.int .i64 N, v], .int .i64 3, .int .i64 a, .int .i64 b] w (EPost B N w v (andC N C b a) (andV N C b a)) := by
  have HO := hid h
  have HB := hid hB
  obtain ⟨av, cv, rfl⟩ := own_slice h
  obtain ⟨_, _, e0, _, hcc1, hcc2, _⟩ := Sl.of_owns h
  simp only [Value.slice.injEq, true_and] at e0
  obtain ⟨rfl, rfl⟩ := e0
  clear h hB
  have HEm := hid (fun X h1 h2 => remit_any B N (.slice av C.length cv) C 3 b a X h1 h2 hl hN)
  by_cases a2 : b = -2
  · have HV := hid (show andV N C b a = -2 by rw [andV, if_pos (.inl a2), a2])
    have HC := hid (show andC N C b a = C by rw [andC, if_pos (.inl a2)])
    rw [HV.out, HC.out]
    clear HV HC
    go_enter Tryd.func49, Tryd.ntmps49
    go_upto_region 1 with fail
    obtain ⟨w3, hw3⟩ : ∃ w3, (w.alloc (.cells #[.int .i64 N, .slice av C.length cv] 96)).alloc (.cells #[.int .i64 0, .slice none 0 0] 96) = w3 := ⟨_, rfl⟩
    obtain ⟨hb3, k1, k2, hs3⟩ := two_lay hw3
    rw [hw3]
    have r0 := blk_cell (j := 0) k1 rfl
    have r1 := blk_cell (j := 1) k1 rfl
    have z0 := blk_cell (j := 0) k2 rfl
    have z1 := blk_cell (j := 1) k2 rfl
    have f0 := blk_frozen (j := 0) k2
    have f1 := blk_frozen (j := 1) k2
    have HK := hid k2
    have HB3 := hid hb3
    have HL3 := hid (show w.heap.size + 1 < w3.heap.size by omega)
    clear hw3 k1 k2 hb3 hs3
    go_wp2_with fail
    obtain ⟨h1, h2⟩ := fin_own (B := B) (N := N) (x := .int .i64 N) (y := .slice av C.length cv) (own_below HO.out HB3.out) (grown_of (row := (Value.slice av C.length cv).ownBlock) HB3.out (Nat.le_refl _)) (by omega : w.heap.size ≤ w.heap.size + 1) HK.out
    refine bodyPost_ret (v := .tuple #[.agg #[.int .i64 N, .slice av C.length cv], .int .i64 (-2)]) ?_ rfl ⟨.slice av C.length cv, ?_, ?_, h2⟩
    · simp [results, Tryd.results49, go_sem, z0, z1]
    · rfl
    · exact h1
  have q2 : (b == -2) = false := by simpa using a2
  by_cases a1 : b = -1
  · have HV := hid (show andV N C b a = a by
      rw [andV]
      by_cases e : b = a
      · rw [if_pos (.inr e), e]
      · rw [if_neg (by omega), if_pos a1])
    have HC := hid (show andC N C b a = C by
      rw [andC]
      by_cases e : b = a
      · rw [if_pos (.inr e)]
      · rw [if_neg (by omega), if_pos a1])
    rw [HV.out, HC.out]
    clear HV HC
    go_enter Tryd.func49, Tryd.ntmps49
    go_upto_region 1 with fail
    obtain ⟨w3, hw3⟩ : ∃ w3, (w.alloc (.cells #[.int .i64 N, .slice av C.length cv] 96)).alloc (.cells #[.int .i64 0, .slice none 0 0] 96) = w3 := ⟨_, rfl⟩
    obtain ⟨hb3, k1, k2, hs3⟩ := two_lay hw3
    rw [hw3]
    have r0 := blk_cell (j := 0) k1 rfl
    have r1 := blk_cell (j := 1) k1 rfl
    have z0 := blk_cell (j := 0) k2 rfl
    have z1 := blk_cell (j := 1) k2 rfl
    have f0 := blk_frozen (j := 0) k2
    have f1 := blk_frozen (j := 1) k2
    have HK := hid k2
    have HB3 := hid hb3
    have HL3 := hid (show w.heap.size + 1 < w3.heap.size by omega)
    clear hw3 k1 k2 hb3 hs3
    go_wp2_with fail
    obtain ⟨h1, h2⟩ := fin_own (B := B) (N := N) (x := .int .i64 N) (y := .slice av C.length cv) (own_below HO.out HB3.out) (grown_of (row := (Value.slice av C.length cv).ownBlock) HB3.out (Nat.le_refl _)) (by omega : w.heap.size ≤ w.heap.size + 1) HK.out
    refine bodyPost_ret (v := .tuple #[.agg #[.int .i64 N, .slice av C.length cv], .int .i64 (a)]) ?_ rfl ⟨.slice av C.length cv, ?_, ?_, h2⟩
    · simp [results, Tryd.results49, go_sem, z0, z1]
    · rfl
    · exact h1
  have q1 : (b == -1) = false := by simpa using a1
  by_cases ae : b = a
  · exact absurd ae (by omega)
  have qe : (b == a) = false := by simpa using ae
  have HV := hid (show andV N C b a = putV N C ⟨3, b, a⟩ by rw [andV, if_neg (by omega), if_neg a1])
  have HC := hid (show andC N C b a = putC C ⟨3, b, a⟩ by rw [andC, if_neg (by omega), if_neg a1])
  rw [HV.out, HC.out]
  clear HV HC
  go_enter Tryd.func49, Tryd.ntmps49
  go_upto_region 1 with fail
  obtain ⟨w3, hw3⟩ : ∃ w3, (w.alloc (.cells #[.int .i64 N, .slice av C.length cv] 96)).alloc (.cells #[.int .i64 0, .slice none 0 0] 96) = w3 := ⟨_, rfl⟩
  obtain ⟨hb3, k1, k2, hs3⟩ := two_lay hw3
  rw [hw3]
  have r0 := blk_cell (j := 0) k1 rfl
  have r1 := blk_cell (j := 1) k1 rfl
  have z0 := blk_cell (j := 0) k2 rfl
  have z1 := blk_cell (j := 1) k2 rfl
  have f0 := blk_frozen (j := 0) k2
  have f1 := blk_frozen (j := 1) k2
  have HK := hid k2
  have HB3 := hid hb3
  have HL3 := hid (show w.heap.size + 1 < w3.heap.size by omega)
  clear hw3 k1 k2 hb3 hs3
  go_wp2_with (go_at_call 92; refine (HEm.out w3 (own_below HO.out HB3.out) (by have := HB.out; have := HL3.out; omega)).mono ?_; rintro e w5 ⟨v5, rfl, ho5, hg5⟩; obtain ⟨a5, c5, rfl⟩ := own_slice ho5; have k5 := (hg5.block (w.heap.size + 1) HL3.out (own_grown_ne (own_below HO.out HB3.out) HK.out)).trans HK.out; have z0 := blk_cell (j := 0) k5 rfl; have z1 := blk_cell (j := 1) k5 rfl; have f0 := blk_frozen (j := 0) k5; have f1 := blk_frozen (j := 1) k5; have HK5 := hid k5; have HO5 := hid ho5; have HG5 := hid (grown_trans (grown_of (row := (Value.slice av C.length cv).ownBlock) HB3.out (Nat.le_refl _)) hg5); clear k5 ho5 hg5)
  obtain ⟨h1, h2⟩ := fin_own (B := B) (N := N) (x := .int .i64 N) (y := .slice a5 (putC C ⟨3, b, a⟩).length c5) HO5.out HG5.out (by omega : w.heap.size ≤ w.heap.size + 1) HK5.out
  refine bodyPost_ret (v := .tuple #[.agg #[.int .i64 N, .slice a5 (putC C ⟨3, b, a⟩).length c5], .int .i64 (putV N C ⟨3, b, a⟩)]) ?_ rfl ⟨.slice a5 (putC C ⟨3, b, a⟩).length c5, ?_, ?_, h2⟩
  · simp [results, Tryd.results49, go_sem, z0, z1]
  · rfl
  · exact h1
set_option maxRecDepth 100000 in
set_option maxHeartbeats 4000000 in
theorem rboth4N (B N : Nat) (v : Value) (C : List Ins) (a b : Int) (w : World) (h : w.ownsRow B 41 3 v C.length (icells C)) (hB : B ≤ w.heap.size) (hl : C.length ≤ 100000) (hN : N ≤ 24) (ha : -2 ≤ a) (ha2 : a < ((N + C.length : Nat) : Int)) (hb : -2 ≤ b) (hb2 : b < ((N + C.length : Nat) : Int)) (hs : ¬ b < a) :
    Calls Tryd.prog 49 #[.agg #[.int .i64 N, v], .int .i64 4, .int .i64 a, .int .i64 b] w (EPost B N w v (xorC N C a b) (xorV N C a b)) := by
  have HO := hid h
  have HB := hid hB
  obtain ⟨av, cv, rfl⟩ := own_slice h
  obtain ⟨_, _, e0, _, hcc1, hcc2, _⟩ := Sl.of_owns h
  simp only [Value.slice.injEq, true_and] at e0
  obtain ⟨rfl, rfl⟩ := e0
  clear h hB
  have HEm := hid (fun X h1 h2 => remit_any B N (.slice av C.length cv) C 4 a b X h1 h2 hl hN)
  have HNg := hid (fun X h1 h2 => rneg_any B N (.slice av C.length cv) C b X h1 h2 hl hN hb hb2)
  by_cases a2 : a = -2
  · have HV := hid (show xorV N C a b = b by
      rw [xorV]
      by_cases e : a = b
      · rw [if_pos e, ← e, a2]
      · rw [if_neg e, if_pos a2])
    have HC := hid (show xorC N C a b = C by
      rw [xorC]
      by_cases e : a = b
      · rw [if_pos e]
      · rw [if_neg e, if_pos a2])
    rw [HV.out, HC.out]
    clear HV HC
    go_enter Tryd.func49, Tryd.ntmps49
    go_upto_region 1 with fail
    obtain ⟨w3, hw3⟩ : ∃ w3, (w.alloc (.cells #[.int .i64 N, .slice av C.length cv] 96)).alloc (.cells #[.int .i64 0, .slice none 0 0] 96) = w3 := ⟨_, rfl⟩
    obtain ⟨hb3, k1, k2, hs3⟩ := two_lay hw3
    rw [hw3]
    have r0 := blk_cell (j := 0) k1 rfl
    have r1 := blk_cell (j := 1) k1 rfl
    have z0 := blk_cell (j := 0) k2 rfl
    have z1 := blk_cell (j := 1) k2 rfl
    have f0 := blk_frozen (j := 0) k2
    have f1 := blk_frozen (j := 1) k2
    have HK := hid k2
    have HB3 := hid hb3
    have HL3 := hid (show w.heap.size + 1 < w3.heap.size by omega)
    clear hw3 k1 k2 hb3 hs3
    go_wp2_with fail
    obtain ⟨h1, h2⟩ := fin_own (B := B) (N := N) (x := .int .i64 N) (y := .slice av C.length cv) (own_below HO.out HB3.out) (grown_of (row := (Value.slice av C.length cv).ownBlock) HB3.out (Nat.le_refl _)) (by omega : w.heap.size ≤ w.heap.size + 1) HK.out
    refine bodyPost_ret (v := .tuple #[.agg #[.int .i64 N, .slice av C.length cv], .int .i64 (b)]) ?_ rfl ⟨.slice av C.length cv, ?_, ?_, h2⟩
    · simp [results, Tryd.results49, go_sem, z0, z1]
    · rfl
    · exact h1
  have q2 : (a == -2) = false := by simpa using a2
  by_cases ae : a = b
  · have HV := hid (show xorV N C a b = -2 by rw [xorV, if_pos ae])
    have HC := hid (show xorC N C a b = C by rw [xorC, if_pos ae])
    rw [HV.out, HC.out]
    clear HV HC
    go_enter Tryd.func49, Tryd.ntmps49
    go_upto_region 1 with fail
    obtain ⟨w3, hw3⟩ : ∃ w3, (w.alloc (.cells #[.int .i64 N, .slice av C.length cv] 96)).alloc (.cells #[.int .i64 0, .slice none 0 0] 96) = w3 := ⟨_, rfl⟩
    obtain ⟨hb3, k1, k2, hs3⟩ := two_lay hw3
    rw [hw3]
    have r0 := blk_cell (j := 0) k1 rfl
    have r1 := blk_cell (j := 1) k1 rfl
    have z0 := blk_cell (j := 0) k2 rfl
    have z1 := blk_cell (j := 1) k2 rfl
    have f0 := blk_frozen (j := 0) k2
    have f1 := blk_frozen (j := 1) k2
    have HK := hid k2
    have HB3 := hid hb3
    have HL3 := hid (show w.heap.size + 1 < w3.heap.size by omega)
    clear hw3 k1 k2 hb3 hs3
    go_wp2_with fail
    obtain ⟨h1, h2⟩ := fin_own (B := B) (N := N) (x := .int .i64 N) (y := .slice av C.length cv) (own_below HO.out HB3.out) (grown_of (row := (Value.slice av C.length cv).ownBlock) HB3.out (Nat.le_refl _)) (by omega : w.heap.size ≤ w.heap.size + 1) HK.out
    refine bodyPost_ret (v := .tuple #[.agg #[.int .i64 N, .slice av C.length cv], .int .i64 (-2)]) ?_ rfl ⟨.slice av C.length cv, ?_, ?_, h2⟩
    · simp [results, Tryd.results49, go_sem, z0, z1]
    · rfl
    · exact h1
  have qe : (a == b) = false := by simpa using ae
  by_cases a1 : a = -1
  · have HV := hid (show xorV N C a b = notV N C b by rw [xorV, if_neg ae, if_neg a2, if_pos a1])
    have HC := hid (show xorC N C a b = notC N C b by rw [xorC, if_neg ae, if_neg a2, if_pos a1])
    rw [HV.out, HC.out]
    clear HV HC
    go_enter Tryd.func49, Tryd.ntmps49
    go_upto_region 1 with fail
    obtain ⟨w3, hw3⟩ : ∃ w3, (w.alloc (.cells #[.int .i64 N, .slice av C.length cv] 96)).alloc (.cells #[.int .i64 0, .slice none 0 0] 96) = w3 := ⟨_, rfl⟩
    obtain ⟨hb3, k1, k2, hs3⟩ := two_lay hw3
    rw [hw3]
    have r0 := blk_cell (j := 0) k1 rfl
    have r1 := blk_cell (j := 1) k1 rfl
    have z0 := blk_cell (j := 0) k2 rfl
    have z1 := blk_cell (j := 1) k2 rfl
    have f0 := blk_frozen (j := 0) k2
    have f1 := blk_frozen (j := 1) k2
    have HK := hid k2
    have HB3 := hid hb3
    have HL3 := hid (show w.heap.size + 1 < w3.heap.size by omega)
    clear hw3 k1 k2 hb3 hs3
    go_wp2_with (go_at_call 48; refine (HNg.out w3 (own_below HO.out HB3.out) (by have := HB.out; have := HL3.out; omega)).mono ?_; rintro e w5 ⟨v5, rfl, ho5, hg5⟩; obtain ⟨a5, c5, rfl⟩ := own_slice ho5; have k5 := (hg5.block (w.heap.size + 1) HL3.out (own_grown_ne (own_below HO.out HB3.out) HK.out)).trans HK.out; have z0 := blk_cell (j := 0) k5 rfl; have z1 := blk_cell (j := 1) k5 rfl; have f0 := blk_frozen (j := 0) k5; have f1 := blk_frozen (j := 1) k5; have HK5 := hid k5; have HO5 := hid ho5; have HG5 := hid (grown_trans (grown_of (row := (Value.slice av C.length cv).ownBlock) HB3.out (Nat.le_refl _)) hg5); clear k5 ho5 hg5)
    obtain ⟨h1, h2⟩ := fin_own (B := B) (N := N) (x := .int .i64 N) (y := .slice a5 (notC N C b).length c5) HO5.out HG5.out (by omega : w.heap.size ≤ w.heap.size + 1) HK5.out
    refine bodyPost_ret (v := .tuple #[.agg #[.int .i64 N, .slice a5 (notC N C b).length c5], .int .i64 (notV N C b)]) ?_ rfl ⟨.slice a5 (notC N C b).length c5, ?_, ?_, h2⟩
    · simp [results, Tryd.results49, go_sem, z0, z1]
    · rfl
    · exact h1
  have q1 : (a == -1) = false := by simpa using a1
  have HV := hid (show xorV N C a b = putV N C ⟨4, a, b⟩ by rw [xorV, if_neg ae, if_neg a2, if_neg a1])
  have HC := hid (show xorC N C a b = putC C ⟨4, a, b⟩ by rw [xorC, if_neg ae, if_neg a2, if_neg a1])
  rw [HV.out, HC.out]
  clear HV HC
  go_enter Tryd.func49, Tryd.ntmps49
  go_upto_region 1 with fail
  obtain ⟨w3, hw3⟩ : ∃ w3, (w.alloc (.cells #[.int .i64 N, .slice av C.length cv] 96)).alloc (.cells #[.int .i64 0, .slice none 0 0] 96) = w3 := ⟨_, rfl⟩
  obtain ⟨hb3, k1, k2, hs3⟩ := two_lay hw3
  rw [hw3]
  have r0 := blk_cell (j := 0) k1 rfl
  have r1 := blk_cell (j := 1) k1 rfl
  have z0 := blk_cell (j := 0) k2 rfl
  have z1 := blk_cell (j := 1) k2 rfl
  have f0 := blk_frozen (j := 0) k2
  have f1 := blk_frozen (j := 1) k2
  have HK := hid k2
  have HB3 := hid hb3
  have HL3 := hid (show w.heap.size + 1 < w3.heap.size by omega)
  clear hw3 k1 k2 hb3 hs3
  go_wp2_with (go_at_call 92; refine (HEm.out w3 (own_below HO.out HB3.out) (by have := HB.out; have := HL3.out; omega)).mono ?_; rintro e w5 ⟨v5, rfl, ho5, hg5⟩; obtain ⟨a5, c5, rfl⟩ := own_slice ho5; have k5 := (hg5.block (w.heap.size + 1) HL3.out (own_grown_ne (own_below HO.out HB3.out) HK.out)).trans HK.out; have z0 := blk_cell (j := 0) k5 rfl; have z1 := blk_cell (j := 1) k5 rfl; have f0 := blk_frozen (j := 0) k5; have f1 := blk_frozen (j := 1) k5; have HK5 := hid k5; have HO5 := hid ho5; have HG5 := hid (grown_trans (grown_of (row := (Value.slice av C.length cv).ownBlock) HB3.out (Nat.le_refl _)) hg5); clear k5 ho5 hg5)
  obtain ⟨h1, h2⟩ := fin_own (B := B) (N := N) (x := .int .i64 N) (y := .slice a5 (putC C ⟨4, a, b⟩).length c5) HO5.out HG5.out (by omega : w.heap.size ≤ w.heap.size + 1) HK5.out
  refine bodyPost_ret (v := .tuple #[.agg #[.int .i64 N, .slice a5 (putC C ⟨4, a, b⟩).length c5], .int .i64 (putV N C ⟨4, a, b⟩)]) ?_ rfl ⟨.slice a5 (putC C ⟨4, a, b⟩).length c5, ?_, ?_, h2⟩
  · simp [results, Tryd.results49, go_sem, z0, z1]
  · rfl
  · exact h1
set_option maxRecDepth 100000 in
set_option maxHeartbeats 4000000 in
theorem rboth4S (B N : Nat) (v : Value) (C : List Ins) (a b : Int) (w : World) (h : w.ownsRow B 41 3 v C.length (icells C)) (hB : B ≤ w.heap.size) (hl : C.length ≤ 100000) (hN : N ≤ 24) (ha : -2 ≤ a) (ha2 : a < ((N + C.length : Nat) : Int)) (hb : -2 ≤ b) (hb2 : b < ((N + C.length : Nat) : Int)) (hs : b < a) :
    Calls Tryd.prog 49 #[.agg #[.int .i64 N, v], .int .i64 4, .int .i64 a, .int .i64 b] w (EPost B N w v (xorC N C b a) (xorV N C b a)) := by
  have HO := hid h
  have HB := hid hB
  obtain ⟨av, cv, rfl⟩ := own_slice h
  obtain ⟨_, _, e0, _, hcc1, hcc2, _⟩ := Sl.of_owns h
  simp only [Value.slice.injEq, true_and] at e0
  obtain ⟨rfl, rfl⟩ := e0
  clear h hB
  have HEm := hid (fun X h1 h2 => remit_any B N (.slice av C.length cv) C 4 b a X h1 h2 hl hN)
  have HNg := hid (fun X h1 h2 => rneg_any B N (.slice av C.length cv) C a X h1 h2 hl hN ha ha2)
  by_cases a2 : b = -2
  · have HV := hid (show xorV N C b a = a by
      rw [xorV]
      by_cases e : b = a
      · rw [if_pos e, ← e, a2]
      · rw [if_neg e, if_pos a2])
    have HC := hid (show xorC N C b a = C by
      rw [xorC]
      by_cases e : b = a
      · rw [if_pos e]
      · rw [if_neg e, if_pos a2])
    rw [HV.out, HC.out]
    clear HV HC
    go_enter Tryd.func49, Tryd.ntmps49
    go_upto_region 1 with fail
    obtain ⟨w3, hw3⟩ : ∃ w3, (w.alloc (.cells #[.int .i64 N, .slice av C.length cv] 96)).alloc (.cells #[.int .i64 0, .slice none 0 0] 96) = w3 := ⟨_, rfl⟩
    obtain ⟨hb3, k1, k2, hs3⟩ := two_lay hw3
    rw [hw3]
    have r0 := blk_cell (j := 0) k1 rfl
    have r1 := blk_cell (j := 1) k1 rfl
    have z0 := blk_cell (j := 0) k2 rfl
    have z1 := blk_cell (j := 1) k2 rfl
    have f0 := blk_frozen (j := 0) k2
    have f1 := blk_frozen (j := 1) k2
    have HK := hid k2
    have HB3 := hid hb3
    have HL3 := hid (show w.heap.size + 1 < w3.heap.size by omega)
    clear hw3 k1 k2 hb3 hs3
    go_wp2_with fail
    obtain ⟨h1, h2⟩ := fin_own (B := B) (N := N) (x := .int .i64 N) (y := .slice av C.length cv) (own_below HO.out HB3.out) (grown_of (row := (Value.slice av C.length cv).ownBlock) HB3.out (Nat.le_refl _)) (by omega : w.heap.size ≤ w.heap.size + 1) HK.out
    refine bodyPost_ret (v := .tuple #[.agg #[.int .i64 N, .slice av C.length cv], .int .i64 (a)]) ?_ rfl ⟨.slice av C.length cv, ?_, ?_, h2⟩
    · simp [results, Tryd.results49, go_sem, z0, z1]
    · rfl
    · exact h1
  have q2 : (b == -2) = false := by simpa using a2
  by_cases ae : b = a
  · exact absurd ae (by omega)
  have qe : (b == a) = false := by simpa using ae
  by_cases a1 : b = -1
  · have HV := hid (show xorV N C b a = notV N C a by rw [xorV, if_neg ae, if_neg a2, if_pos a1])
    have HC := hid (show xorC N C b a = notC N C a by rw [xorC, if_neg ae, if_neg a2, if_pos a1])
    rw [HV.out, HC.out]
    clear HV HC
    go_enter Tryd.func49, Tryd.ntmps49
    go_upto_region 1 with fail
    obtain ⟨w3, hw3⟩ : ∃ w3, (w.alloc (.cells #[.int .i64 N, .slice av C.length cv] 96)).alloc (.cells #[.int .i64 0, .slice none 0 0] 96) = w3 := ⟨_, rfl⟩
    obtain ⟨hb3, k1, k2, hs3⟩ := two_lay hw3
    rw [hw3]
    have r0 := blk_cell (j := 0) k1 rfl
    have r1 := blk_cell (j := 1) k1 rfl
    have z0 := blk_cell (j := 0) k2 rfl
    have z1 := blk_cell (j := 1) k2 rfl
    have f0 := blk_frozen (j := 0) k2
    have f1 := blk_frozen (j := 1) k2
    have HK := hid k2
    have HB3 := hid hb3
    have HL3 := hid (show w.heap.size + 1 < w3.heap.size by omega)
    clear hw3 k1 k2 hb3 hs3
    go_wp2_with (go_at_call 48; refine (HNg.out w3 (own_below HO.out HB3.out) (by have := HB.out; have := HL3.out; omega)).mono ?_; rintro e w5 ⟨v5, rfl, ho5, hg5⟩; obtain ⟨a5, c5, rfl⟩ := own_slice ho5; have k5 := (hg5.block (w.heap.size + 1) HL3.out (own_grown_ne (own_below HO.out HB3.out) HK.out)).trans HK.out; have z0 := blk_cell (j := 0) k5 rfl; have z1 := blk_cell (j := 1) k5 rfl; have f0 := blk_frozen (j := 0) k5; have f1 := blk_frozen (j := 1) k5; have HK5 := hid k5; have HO5 := hid ho5; have HG5 := hid (grown_trans (grown_of (row := (Value.slice av C.length cv).ownBlock) HB3.out (Nat.le_refl _)) hg5); clear k5 ho5 hg5)
    obtain ⟨h1, h2⟩ := fin_own (B := B) (N := N) (x := .int .i64 N) (y := .slice a5 (notC N C a).length c5) HO5.out HG5.out (by omega : w.heap.size ≤ w.heap.size + 1) HK5.out
    refine bodyPost_ret (v := .tuple #[.agg #[.int .i64 N, .slice a5 (notC N C a).length c5], .int .i64 (notV N C a)]) ?_ rfl ⟨.slice a5 (notC N C a).length c5, ?_, ?_, h2⟩
    · simp [results, Tryd.results49, go_sem, z0, z1]
    · rfl
    · exact h1
  have q1 : (b == -1) = false := by simpa using a1
  have HV := hid (show xorV N C b a = putV N C ⟨4, b, a⟩ by rw [xorV, if_neg ae, if_neg a2, if_neg a1])
  have HC := hid (show xorC N C b a = putC C ⟨4, b, a⟩ by rw [xorC, if_neg ae, if_neg a2, if_neg a1])
  rw [HV.out, HC.out]
  clear HV HC
  go_enter Tryd.func49, Tryd.ntmps49
  go_upto_region 1 with fail
  obtain ⟨w3, hw3⟩ : ∃ w3, (w.alloc (.cells #[.int .i64 N, .slice av C.length cv] 96)).alloc (.cells #[.int .i64 0, .slice none 0 0] 96) = w3 := ⟨_, rfl⟩
  obtain ⟨hb3, k1, k2, hs3⟩ := two_lay hw3
  rw [hw3]
  have r0 := blk_cell (j := 0) k1 rfl
  have r1 := blk_cell (j := 1) k1 rfl
  have z0 := blk_cell (j := 0) k2 rfl
  have z1 := blk_cell (j := 1) k2 rfl
  have f0 := blk_frozen (j := 0) k2
  have f1 := blk_frozen (j := 1) k2
  have HK := hid k2
  have HB3 := hid hb3
  have HL3 := hid (show w.heap.size + 1 < w3.heap.size by omega)
  clear hw3 k1 k2 hb3 hs3
  go_wp2_with (go_at_call 92; refine (HEm.out w3 (own_below HO.out HB3.out) (by have := HB.out; have := HL3.out; omega)).mono ?_; rintro e w5 ⟨v5, rfl, ho5, hg5⟩; obtain ⟨a5, c5, rfl⟩ := own_slice ho5; have k5 := (hg5.block (w.heap.size + 1) HL3.out (own_grown_ne (own_below HO.out HB3.out) HK.out)).trans HK.out; have z0 := blk_cell (j := 0) k5 rfl; have z1 := blk_cell (j := 1) k5 rfl; have f0 := blk_frozen (j := 0) k5; have f1 := blk_frozen (j := 1) k5; have HK5 := hid k5; have HO5 := hid ho5; have HG5 := hid (grown_trans (grown_of (row := (Value.slice av C.length cv).ownBlock) HB3.out (Nat.le_refl _)) hg5); clear k5 ho5 hg5)
  obtain ⟨h1, h2⟩ := fin_own (B := B) (N := N) (x := .int .i64 N) (y := .slice a5 (putC C ⟨4, b, a⟩).length c5) HO5.out HG5.out (by omega : w.heap.size ≤ w.heap.size + 1) HK5.out
  refine bodyPost_ret (v := .tuple #[.agg #[.int .i64 N, .slice a5 (putC C ⟨4, b, a⟩).length c5], .int .i64 (putV N C ⟨4, b, a⟩)]) ?_ rfl ⟨.slice a5 (putC C ⟨4, b, a⟩).length c5, ?_, ?_, h2⟩
  · simp [results, Tryd.results49, go_sem, z0, z1]
  · rfl
  · exact h1
theorem minZ_of {a b : Int} : (b < a → minZ a b = b ∧ maxZ a b = a) ∧ (¬ b < a → minZ a b = a ∧ maxZ a b = b) := by
  unfold minZ maxZ
  constructor
  · intro h; rw [if_pos h, if_neg (by omega)]; exact ⟨rfl, rfl⟩
  · intro h
    rw [if_neg h]
    refine ⟨rfl, ?_⟩
    split <;> omega
theorem rboth3 (B N : Nat) (v : Value) (C : List Ins) (a b : Int) (w : World) (h : w.ownsRow B 41 3 v C.length (icells C)) (hB : B ≤ w.heap.size) (hl : C.length ≤ 100000) (hN : N ≤ 24) (ha : -2 ≤ a) (ha2 : a < ((N + C.length : Nat) : Int)) (hb : -2 ≤ b) (hb2 : b < ((N + C.length : Nat) : Int)) :
    Calls Tryd.prog 49 #[.agg #[.int .i64 N, v], .int .i64 3, .int .i64 a, .int .i64 b] w (EPost B N w v (andC N C (minZ a b) (maxZ a b)) (andV N C (minZ a b) (maxZ a b))) := by
  by_cases hs : b < a
  · obtain ⟨h1, h2⟩ := minZ_of.1 hs
    rw [h1, h2]
    exact rboth3S B N v C a b w h hB hl hN ha ha2 hb hb2 hs
  · obtain ⟨h1, h2⟩ := minZ_of.2 hs
    rw [h1, h2]
    exact rboth3N B N v C a b w h hB hl hN ha ha2 hb hb2 hs
theorem rboth4 (B N : Nat) (v : Value) (C : List Ins) (a b : Int) (w : World) (h : w.ownsRow B 41 3 v C.length (icells C)) (hB : B ≤ w.heap.size) (hl : C.length ≤ 100000) (hN : N ≤ 24) (ha : -2 ≤ a) (ha2 : a < ((N + C.length : Nat) : Int)) (hb : -2 ≤ b) (hb2 : b < ((N + C.length : Nat) : Int)) :
    Calls Tryd.prog 49 #[.agg #[.int .i64 N, v], .int .i64 4, .int .i64 a, .int .i64 b] w (EPost B N w v (xorC N C (minZ a b) (maxZ a b)) (xorV N C (minZ a b) (maxZ a b))) := by
  by_cases hs : b < a
  · obtain ⟨h1, h2⟩ := minZ_of.1 hs
    rw [h1, h2]
    exact rboth4S B N v C a b w h hB hl hN ha ha2 hb hb2 hs
  · obtain ⟨h1, h2⟩ := minZ_of.2 hs
    rw [h1, h2]
    exact rboth4N B N v C a b w h hB hl hN ha ha2 hb hb2 hs
end Go.Proofs.YtgfeknjhkciooaaDoor
