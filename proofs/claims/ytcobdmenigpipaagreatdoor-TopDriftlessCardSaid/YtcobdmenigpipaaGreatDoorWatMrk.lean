/-
  watermark.Mark: a word over two letters.
  Up to 1000 letters.
-/
import Derived.Test.YtcobdmenigpipaaGreatDoorWatGen
namespace Go.Proofs.YtcobdmenigpipaaGreatDoor
open Go.RowKit Go.Deep
set_option linter.unusedVariables false
set_option linter.unusedSimpArgs false

set_option maxRecDepth 100000 in
set_option maxHeartbeats 2000000 in
theorem mark_any (n s : Nat) (w : World) (hn : n ≤ 1000) (hs : s < 1000) :
    Calls Tryz.prog 4 #[.int .i64 (n : Int), .int .i64 (s : Int)] w fun e w' => ∃ L : List UInt8, e = .returned (.tuple #[.string ⟨L.toArray⟩, .int .i64 0]) ∧ L.length = n ∧ (∀ x ∈ L, x = 48 ∨ x = 49) ∧ Below w.heap.size w w' := by
  have hnJ : ¬ (65536 : Int) < (n : Int) := by omega
  have hsJ : ¬ (2147483648 : Int) ≤ (s : Int) := by omega
  go_enter Tryz.func4, Tryz.ntmps4
  go_upto_region 6 with fail
  obtain ⟨w2, hw2⟩ : ∃ w2, w.alloc (.cells #[.pointer none, .slice none 0 0] 42) = w2 := ⟨_, rfl⟩
  have HBd := hid (show Bld w2 w.heap.size (w.heap.size + 1) [] by rw [← hw2]; exact Bld.fresh w)
  have HB2 := hid (show Below w.heap.size w w2 by rw [← hw2]; exact bel_alloc _ _)
  rw [hw2]
  clear hw2
  have hs31 : s < 2147483648 := by omega
  go_loopw [7, 24] (fun x i wr => ∃ (k X : Nat) (L : List UInt8), k ≤ n ∧ i = .int .i64 (k : Int) ∧ x = .int .i64 (X : Int) ∧ X < 2147483648 ∧ L.length = k ∧ Hid (∀ x ∈ L, x = 48 ∨ x = 49) ∧ Hid (Bld wr w.heap.size (w.heap.size + 1) (Lib.byteCells L)) ∧ Hid (BelB (w.heap.size + 1) w.heap.size w2 wr)) (fun _ i _ => n - (intOf i).toNat)
  case atStart => exact ⟨0, s, [], Nat.zero_le _, rfl, rfl, hs31, rfl, hid (by simp), HBd, hid (BelB.refl _ _ _)⟩
  case round =>
    obtain ⟨k, X, L, hk, rfl, rfl, hX, hLl, HL, HD, HB⟩ := hrel
    rename World => wk
    by_cases hlt : k < n
    · have hkI : (k : Int) < (n : Int) := by omega
      obtain ⟨Y, hY⟩ : ∃ Y : Nat, (1103515245 * X + 12345) % 2147483648 = Y := ⟨_, rfl⟩
      have hY2 : Y < 2147483648 := by omega
      have hYI : (1103515245 * (X : Int) + 12345) % 2147483648 = (Y : Int) := by omega
      clear hY
      have hk1 : k + 1 ≤ n := hlt
      have hms : n - (k + 1) < n - k := by omega
      have hln : (Lib.byteCells L).length + 1 ≤ 140737488355328 := by rw [Lib.byteCells_length]; omega
      have hmul : 1103515245 * (X : Int) ≤ 3000000000000000000 := by omega
      go_upto_region 8 with fail
      rw [hYI]
      clear hmul hYI
      have hcase : ∀ Q : Prop, (bits .and .i64 ((Y : Int) / 65536) 1 = 0 → Q) → (bits .and .i64 ((Y : Int) / 65536) 1 = 1 → Q) → Q := by
        intro Q q0 q1
        rw [i64_and1] at q0 q1
        rcases (show (Y : Int) / 65536 % 2 = 0 ∨ (Y : Int) / 65536 % 2 = 1 by omega) with h | h
        · exact q0 h
        · exact q1 h
      refine hcase _ (fun hb => ?_) (fun hb => ?_) <;> clear hcase
      · have hb2 : bits .and .i64 ((Y : Int) / 2 ^ 16) 1 = 0 := hb
        go_wp2_with (go_at_call 16; refine (writeByte_bld _ _ _ _ _ HD.out hln).mono ?_; rintro e w6 ⟨rfl, hd6, hb6⟩; have HD6 := hid hd6; have HB6 := hid (HB.out.trans hb6); clear hd6 hb6)
        go_roundw
        case rel => exact ⟨k + 1, Y, L ++ [48], hk1, rfl, rfl, hY2, by rw [List.length_append, hLl]; rfl, hid (fun x hx => by rcases List.mem_append.1 hx with h | h; exact HL.out x h; exact .inl (List.mem_singleton.1 h)), hid (by rw [Lib.byteCells_append]; exact HD6.out), HB6⟩
        case measure => exact hms
      · have hb2 : bits .and .i64 ((Y : Int) / 2 ^ 16) 1 = 1 := hb
        go_wp2_with (go_at_call 16; refine (writeByte_bld _ _ _ _ _ HD.out hln).mono ?_; rintro e w6 ⟨rfl, hd6, hb6⟩; have HD6 := hid hd6; have HB6 := hid (HB.out.trans hb6); clear hd6 hb6)
        go_roundw
        case rel => exact ⟨k + 1, Y, L ++ [49], hk1, rfl, rfl, hY2, by rw [List.length_append, hLl]; rfl, hid (fun x hx => by rcases List.mem_append.1 hx with h | h; exact HL.out x h; exact .inr (List.mem_singleton.1 h)), hid (by rw [Lib.byteCells_append]; exact HD6.out), HB6⟩
        case measure => exact hms
    · have hkI : ¬ (k : Int) < (n : Int) := by omega
      have HSt := hid (string_bld w.heap.size (w.heap.size + 1) L wk HD.out)
      have hkn : L.length = n := by omega
      clear hLl
      go_wp2_with (go_at_call 17; refine HSt.out.mono ?_; rintro e w7 ⟨rfl, hb7⟩)
      go_ret2
      exact ⟨L, rfl, hkn, HL.out, (HB2.out.trans (HB.out.below (Nat.le_refl _) (Nat.le_succ _))).trans hb7⟩
end Go.Proofs.YtcobdmenigpipaaGreatDoor
