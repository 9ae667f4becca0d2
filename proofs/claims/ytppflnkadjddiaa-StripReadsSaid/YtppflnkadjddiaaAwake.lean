/-
  groovelaw19.awake: the examples of the chapter hold.
  No condition.
-/
import Derived.Test.YtppflnkadjddiaaCounting
import Derived.Test.YtppflnkadjddiaaStripRows
import Derived.Test.YtppflnkadjddiaaSlices
import Derived.Deep.RegionHeld3
namespace Go.Proofs.Ytppflnkadjddiaa
open Go.RowKit
set_option linter.unusedVariables false

theorem cnt22E : cntE 2 2 (hards 16) = 0 := by decide
theorem cnt13E : cntE 1 3 [0, 1, 2] = 0 := by decide
theorem cnt22 : cntN 2 2 (hards 16) = 7 := by kernel_rfl
theorem cnt13 : cntN 1 3 [0, 1, 2] = 5 := by kernel_rfl
theorem rows12E : rowsErr 2 [1, 2] = 0 := by decide
theorem rows12 : rowsL 2 [1, 2] = [⟨#[48, 49]⟩, ⟨#[49, 48]⟩] := by kernel_rfl
/-- A slice that a statement lays itself. -/
theorem lit_sl (w : World) (e : TypeId) (c : Array Value) (n : Nat) (hn : c.size = n) (hm : n ≤ 1000) : Sl 1 (w.alloc (.cells c e)) (.slice (some ⟨w.heap.size, 0, none⟩) n n) n c.toList := by
  subst hn
  refine ⟨_, _, rfl, by simp, Nat.le_refl _, by omega, .inr ⟨w.heap.size, 0, rfl, fun j x hj => ?_⟩⟩
  rw [Nat.zero_add, cell_of_row _ w.heap.size j _ _ _ (heap_alloc_new w _)]
  simpa using hj
theorem lit_ints (w : World) (l : List Int) (c : Array Value) (hc : c.toList = ints l) (hm : l.length ≤ 1000) : Sl 1 (w.alloc (.cells c 3)) (.slice (some ⟨w.heap.size, 0, none⟩) l.length l.length) l.length (ints l) := by
  rw [← hc]
  exact lit_sl w _ c l.length (by have := congrArg List.length hc; simpa [ints] using this) hm
theorem lit_strs (w : World) (l : List ByteArray) (c : Array Value) (hc : c.toList = strs l) (hm : l.length ≤ 1000) : Sl 1 (w.alloc (.cells c 9)) (.slice (some ⟨w.heap.size, 0, none⟩) l.length l.length) l.length (strs l) := by
  rw [← hc]
  exact lit_sl w _ c l.length (by have := congrArg List.length hc; simpa [strs] using this) hm

theorem countA (v : Value) (w : World) (hl : Sl 1 w v (hards 16).length (ints (hards 16))) :
    Calls Try.prog 22 #[.int .i64 2, .int .i64 2, v] w fun e w' => e = .returned (.tuple #[.agg #[.bool false, .string (nmg 7)], .int .i64 0]) ∧ Below w.heap.size w w' := by
  have := count_any 2 2 v (hards 16) w hl
  unfold CountPost at this
  rwa [cnt22E, cnt22] at this
theorem countB (v : Value) (w : World) (hl : Sl 1 w v [(0 : Int), 1, 2].length (ints [0, 1, 2])) :
    Calls Try.prog 22 #[.int .i64 1, .int .i64 3, v] w fun e w' => e = .returned (.tuple #[.agg #[.bool false, .string (nmg 5)], .int .i64 0]) ∧ Below w.heap.size w w' := by
  have := count_any 1 3 v [0, 1, 2] w hl
  unfold CountPost at this
  rwa [cnt13E, cnt13] at this
def twoRows : List ByteArray := [⟨#[48, 49]⟩, ⟨#[49, 48]⟩]
theorem rowsA (v : Value) (w : World) (hl : Sl 1 w v [(1 : Int), 2].length (ints [1, 2])) :
    Calls Try.prog 12 #[.int .i64 2, v] w fun e w' => ∃ v', e = .returned (.tuple #[v', .int .i64 0]) ∧ Sl 1 w' v' twoRows.length (strs twoRows) ∧ Below w.heap.size w w' := by
  refine (rows_any 2 v [1, 2] w hl).mono ?_
  rintro e w' ⟨v', rfl, ho, hb⟩
  rw [rows12] at ho
  exact ⟨v', by rw [rows12E], Sl.of_owns ho, hb⟩

theorem equalHard (v1 v2 : Value) (w : World) (h1 : Sl 1 w v1 (hards 16).length (ints (hards 16))) (h2 : Sl 1 w v2 [(0 : Int), 1, 2, 4, 6, 8, 9].length (ints [0, 1, 2, 4, 6, 8, 9])) :
    Calls Try.prog 14 #[v1, v2] w fun e w' => e = .returned (.bool true) ∧ Below w.heap.size w w' := by
  refine (equalInts_any v1 v2 (hards 16) [0, 1, 2, 4, 6, 8, 9] w h1 h2).mono ?_
  rintro e w' ⟨rfl, hd⟩
  exact ⟨ret_bool (by decide), hd.below _⟩
theorem equalTwo (v1 v2 : Value) (w : World) (h1 : Sl 1 w v1 twoRows.length (strs twoRows)) (h2 : Sl 1 w v2 twoRows.length (strs twoRows)) :
    Calls Try.prog 15 #[v1, v2] w fun e w' => e = .returned (.bool true) ∧ Below w.heap.size w w' := by
  refine (equalStrs_any v1 v2 twoRows twoRows w h1 h2).mono ?_
  rintro e w' ⟨rfl, hd⟩
  exact ⟨ret_bool ((eqb_iff _ _).2 rfl), hd.below _⟩
theorem below_now {X Z : World} (h1 : Z.os = X.os ∧ Z.tape = X.tape ∧ Z.output = X.output) (h2 : Z.heap = X.heap ∨ ∃ o, Z.heap = X.heap.push o) : Below X.heap.size X Z := by
  rcases h2 with h2 | ⟨o, h2⟩
  · exact ⟨h1.1, h1.2.1, h1.2.2, by rw [h2]; exact Nat.le_refl _, fun k _ => by rw [h2]⟩
  · exact ⟨h1.1, h1.2.1, h1.2.2, by rw [h2, Array.size_push]; omega, fun k hk => by rw [h2, Array.getElem?_push, if_neg (by omega)]⟩
theorem below_via {X Z Y : World} (hb : Below Z.heap.size Z Y) (h1 : Z.os = X.os ∧ Z.tape = X.tape ∧ Z.output = X.output) (h2 : Z.heap = X.heap ∨ ∃ o, Z.heap = X.heap.push o) : Below X.heap.size X Y :=
  (below_now h1 h2).trans (hb.mono (below_now h1 h2).size)

structure AwF (w : World) (b1 b3 : Nat) (v6 : Value) (X : World) : Prop where
  a0 : X.cell? ⟨b1, 0, none⟩ = some (.bool false)
  a1 : X.cell? ⟨b1, 1, none⟩ = some (.string (nmg 7))
  a2 : X.cell? ⟨b3, 0, none⟩ = some (.bool false)
  a3 : X.cell? ⟨b3, 1, none⟩ = some (.string (nmg 5))
  sl : Sl 1 X v6 twoRows.length (strs twoRows)
  bel : Below w.heap.size w X
theorem AwF.facts {w X Z : World} {b1 b3 : Nat} {v6 : Value} (h : AwF w b1 b3 v6 X) (hB : Below X.heap.size X Z) : Z.cell? ⟨b1, 0, none⟩ = some (.bool false) ∧ Z.cell? ⟨b1, 1, none⟩ = some (.string (nmg 7)) ∧ Z.cell? ⟨b3, 0, none⟩ = some (.bool false) ∧ Z.cell? ⟨b3, 1, none⟩ = some (.string (nmg 5)) :=
  ⟨keeps hB h.a0, keeps hB h.a1, keeps hB h.a2, keeps hB h.a3⟩
theorem AwF.step {w X Z Y : World} {b1 b3 : Nat} {v6 : Value} (h : AwF w b1 b3 v6 X) (hb : Below Z.heap.size Z Y) (h1 : Z.os = X.os ∧ Z.tape = X.tape ∧ Z.output = X.output) (h2 : Z.heap = X.heap ∨ ∃ o, Z.heap = X.heap.push o) : AwF w b1 b3 v6 Y := by
  have hB := below_via hb h1 h2
  exact ⟨keeps hB h.a0, keeps hB h.a1, keeps hB h.a2, keeps hB h.a3, h.sl.below hB, bel_step h.bel hB⟩

set_option maxRecDepth 100000 in
set_option maxHeartbeats 4000000 in
theorem awake_any (w : World) :
    Calls Try.prog 10 #[] w fun e w' => e = .returned (.bool true) ∧ Below w.heap.size w w' := by
  go_enter Try.func10, Try.ntmps10
  have hbw := Below.refl w.heap.size w
  go_upto_region 2 with (first
    | (go_at_call 38; refine (hard_any _).mono ?_; rintro e w1 ⟨⟨v1, rfl, ho⟩, hb1⟩; have hS1 := Sl.of_owns ho; have hbw := hbw.trans hb1)
    | (go_at_call 22; refine (countA _ _ hS1).mono ?_; rintro e w2 ⟨rfl, hb2⟩; have hbw := bel_step hbw hb2))
  have hbw2 := hbw.alloc hbw.size (.cells #[.bool false, .string (nmg 7)] 41)
  have a0 : (w2.alloc (.cells #[.bool false, .string (nmg 7)] 41)).cell? ⟨w2.heap.size, 0, none⟩ = some (.bool false) := by simp [go_sem]
  have a1 : (w2.alloc (.cells #[.bool false, .string (nmg 7)] 41)).cell? ⟨w2.heap.size, 1, none⟩ = some (.string (nmg 7)) := by simp [go_sem]
  clear ho hb1 hS1 hb2 hbw
  generalize w2.alloc (.cells #[.bool false, .string (nmg 7)] 41) = w3 at *
  generalize w2.heap.size = b1 at *
  go_upto_region 3 with (go_at_call 22; refine (countB _ _ (lit_ints _ [0, 1, 2] _ rfl (by decide))).mono ?_; rintro e w4 ⟨rfl, hb4⟩; have hlit := (Below.refl w3.heap.size w3).alloc (Nat.le_refl _) (.cells #[.int .i64 0, .int .i64 1, .int .i64 2] 3); have hb := hlit.trans (hb4.mono (by simp)))
  have hbw4 := bel_step hbw2 hb
  have a0 := keeps hb a0
  have a1 := keeps hb a1
  have a2 : (w4.alloc (.cells #[.bool false, .string (nmg 5)] 41)).cell? ⟨w4.heap.size, 0, none⟩ = some (.bool false) := by simp [go_sem]
  have a3 : (w4.alloc (.cells #[.bool false, .string (nmg 5)] 41)).cell? ⟨w4.heap.size, 1, none⟩ = some (.string (nmg 5)) := by simp [go_sem]
  have hbw5 := hbw4.alloc hbw4.size (.cells #[.bool false, .string (nmg 5)] 41)
  have hb5 : Below w4.heap.size w4 (w4.alloc (.cells #[.bool false, .string (nmg 5)] 41)) := (Below.refl _ _).alloc (Nat.le_refl _) _
  have a0 := keeps hb5 a0
  have a1 := keeps hb5 a1
  clear hlit hb hb4 hb5 hbw4
  generalize w4.alloc (.cells #[.bool false, .string (nmg 5)] 41) = w5 at *
  generalize w4.heap.size = b3 at *
  go_upto_region 4 with (go_at_call 12; refine (rowsA _ _ (lit_ints _ [1, 2] _ rfl (by decide))).mono ?_; rintro e w6 ⟨v6, rfl, hS6, hb6⟩; have hlit := (Below.refl w5.heap.size w5).alloc (Nat.le_refl _) (.cells #[.int .i64 1, .int .i64 2] 3); have hb := hlit.trans (hb6.mono (by simp)))
  have hbw6 := bel_step hbw5 hb
  have a0 := keeps hb a0
  have a1 := keeps hb a1
  have a2 := keeps hb a2
  have a3 := keeps hb a3
  clear hlit hb hb6 hbw5 hbw2
  have hF : AwF w b1 b3 v6 w6 := ⟨a0, a1, a2, a3, hS6, hbw6⟩
  clear a0 a1 a2 a3 hS6 hbw6
  have i7 : img 7 = nmg 7 := rfl
  have i5 : img 5 = nmg 5 := rfl
  have j7 : isg 7 = false := rfl
  have j5 : isg 5 = false := rfl
  go_region_held3 (fun w' => w'.cell? ⟨b1, 0, none⟩ = some (.bool false) ∧ w'.cell? ⟨b1, 1, none⟩ = some (.string (nmg 7)) ∧ w'.cell? ⟨b3, 0, none⟩ = some (.bool false) ∧ w'.cell? ⟨b3, 1, none⟩ = some (.string (nmg 5)))
    (first | exact ⟨hF.a0, hF.a1, hF.a2, hF.a3⟩ | exact hF.facts (below_now ⟨rfl, rfl, rfl⟩ (by first | exact .inl rfl | exact .inr ⟨_, rfl⟩)) | go_keep)
    (first
      | (go_at_call 38; refine (hard_any _).mono ?_; rintro e w7 ⟨⟨v7, rfl, ho⟩, hb⟩; have hS7 := Sl.of_owns ho; have hF := hF.step hb ⟨rfl, rfl, rfl⟩ (by first | exact .inl rfl | exact .inr ⟨_, rfl⟩))
      | (go_at_call 14; refine (equalHard _ _ _ ?_ ?_).mono ?_; (exact hS7.below (below_now ⟨rfl, rfl, rfl⟩ (by first | exact .inl rfl | exact .inr ⟨_, rfl⟩))); (first | exact lit_ints _ [0, 1, 2, 4, 6, 8, 9] _ rfl (by decide) | exact (lit_ints _ [0, 1, 2, 4, 6, 8, 9] _ rfl (by decide)).below hb | exact ((lit_ints w6 [0, 1, 2, 4, 6, 8, 9] #[.int .i64 0, .int .i64 1, .int .i64 2, .int .i64 4, .int .i64 6, .int .i64 8, .int .i64 9] rfl (by decide)).below (below_drewN (Below.refl _ _) 1)).below hb); rintro e w8 ⟨rfl, hb⟩; have hF := hF.step hb ⟨rfl, rfl, rfl⟩ (by first | exact .inl rfl | exact .inr ⟨_, rfl⟩))
      | (go_at_call 25; refine (of_any _ _ ?_ ?_).mono ?_; (decide); (decide); rintro e w7 ⟨rfl, hb⟩; have hF := hF.step hb ⟨rfl, rfl, rfl⟩ (by first | exact .inl rfl | exact .inr ⟨_, rfl⟩))
      | (go_at_call 15; refine (equalTwo _ _ _ ?_ ?_).mono ?_; (exact hF.sl.below (below_now ⟨rfl, rfl, rfl⟩ (by first | exact .inl rfl | exact .inr ⟨_, rfl⟩))); (exact lit_strs _ twoRows _ rfl (by decide)); rintro e w8 ⟨rfl, hb⟩; have hF := hF.step hb ⟨rfl, rfl, rfl⟩ (by first | exact .inl rfl | exact .inr ⟨_, rfl⟩)))
  all_goals
    go_wp2
    go_ret
    exact ⟨rfl, hF.bel⟩
end Go.Proofs.Ytppflnkadjddiaa
