/-
  The walk of StripRoundTrip: it returns true, and writes nothing that was there.
  No condition beyond what the arguments' types say.
-/
import Derived.Test.YtppflnkadjddiaaRoundLaw
import Derived.Test.YtppflnkadjddiaaAwake
import Derived.Test.YtppflnkadjddiaaFuncs
import Derived.Test.YtppflnkadjddiaaBasics
namespace Go.Proofs.Ytppflnkadjddiaa
open Go.RowKit
set_option linter.unusedVariables false

theorem rowsR (h : Int) (c : List Int) (v : Value) (w : World) (h1 : 1 ≤ h) (h4 : h ≤ 4) (hn : c.length ≤ 65536) (ha : c.all (okCol h) = true) (hl : Sl 1 w v c.length (ints c)) :
    Calls Try.prog 12 #[.int .i64 h, v] w fun e w' => ∃ v', e = .returned (.tuple #[v', .int .i64 0]) ∧ Sl 1 w' v' (rowsGo h c h.toNat).length (strs (rowsGo h c h.toNat)) ∧ Below w.heap.size w w' := by
  refine (rows_any h v c w hl).mono ?_
  rintro e w' ⟨v', rfl, ho, hb⟩
  rw [rowsL_ok h1 h4 hn ha] at ho
  exact ⟨v', by rw [rowsErr_ok h1 h4 hn ha], Sl.of_owns ho, hb⟩
theorem colsR (h : Int) (c : List Int) (v : Value) (w : World) (h1 : 1 ≤ h) (h4 : h ≤ 4) (hn : c.length ≤ 65536) (ha : c.all (okCol h) = true) (hl : Sl 1 w v (rowsGo h c h.toNat).length (strs (rowsGo h c h.toNat))) :
    Calls Try.prog 13 #[v] w fun e w' => ∃ v', e = .returned (.tuple #[v', .int .i64 0]) ∧ Sl 1 w' v' c.length (ints c) ∧ Below w.heap.size w w' := by
  refine (columns_any v _ w hl (by rw [rowsGo_len]; omega)).mono ?_
  rintro e w' ⟨v', rfl, ho, hb⟩
  rw [colsL_rowsGo h1 h4 hn ha] at ho
  exact ⟨v', by rw [colsErr_rowsGo h1 h4 hn], Sl.of_owns ho, hb⟩
theorem equalI (l : List Int) (v1 v2 : Value) (w : World) (h1 : Sl 1 w v1 l.length (ints l)) (h2 : Sl 1 w v2 l.length (ints l)) :
    Calls Try.prog 14 #[v1, v2] w fun e w' => e = .returned (.bool true) ∧ Below w.heap.size w w' := by
  refine (equalInts_any v1 v2 l l w h1 h2).mono ?_
  rintro e w' ⟨rfl, hd⟩
  exact ⟨ret_bool ((eqb_iff _ _).2 rfl), hd.below _⟩
theorem equalS (l : List ByteArray) (v1 v2 : Value) (w : World) (h1 : Sl 1 w v1 l.length (strs l)) (h2 : Sl 1 w v2 l.length (strs l)) :
    Calls Try.prog 15 #[v1, v2] w fun e w' => e = .returned (.bool true) ∧ Below w.heap.size w w' := by
  refine (equalStrs_any v1 v2 l l w h1 h2).mono ?_
  rintro e w' ⟨rfl, hd⟩
  exact ⟨ret_bool ((eqb_iff _ _).2 rfl), hd.below _⟩

theorem containR (B k cap2 : Nat) (ao2 : Option Addr) (v : Value) (rows : List ByteArray) (w : World) (hF : rows.any (fun r => decide (r.size ≠ k)) = false) (hl : Sl 1 w v rows.length (strs rows)) (hc : w.cell? ⟨B, 0, none⟩ = some (.slice ao2 k cap2)) :
    Calls Try.prog 16 #[v, .func (.func 17) #[] #[.pointer (some ⟨B, 0, none⟩)]] w fun e w' => e = .returned (.bool false) ∧ w = w' := by
  refine (contains_any B k cap2 ao2 v rows w hl hc).mono ?_
  rintro e w' ⟨rfl, hw⟩
  exact ⟨by rw [hF], hw⟩

set_option maxRecDepth 100000 in
set_option maxHeartbeats 4000000 in
theorem stripRoundTrip_any (a : Int) (v : Value) (l : List Int) (w : World) (ha0 : 0 ≤ a) (ha1 : a ≤ 255) (hl : Sl 1 w v l.length (l.map (.int .u8))) (hb : ∀ x ∈ l, 0 ≤ x ∧ x ≤ 255) :
    Calls Try.prog 3 #[.int .u8 a, v] w fun e w' => e = .returned (.bool true) ∧ Below w.heap.size w w' := by
  have HS := hid hl
  obtain ⟨ao, cap, rfl, _, hc1, hm1, hs⟩ := hl
  clear hs
  have HB := hid hb
  clear hb
  by_cases h24 : l.length ≤ 24
  · obtain ⟨h, hh⟩ : ∃ h, a % 4 + 1 = h := ⟨_, rfl⟩
    have h1 : 1 ≤ h := by omega
    have h4 : h ≤ 4 := by omega
    have HC := hid (okCol_colsOf h l h1 h4)
    have HL := hid (colsOf_len h l)
    have hcl : (colsOf h l).length ≤ 65536 := by rw [HL.out]; omega
    have HRL := hid (rowsGo_len h (colsOf h l) h.toNat)
    have HAny := hid (any_rowsGo h (colsOf h l) h.toNat)
    go_enter Try.func3, Try.ntmps3
    go_upto_region 5 with (go_at_call 11; refine (numbers_any _ _ l _ ?_ ?_ HS.out HB.out ?_).mono ?_; (omega); (omega); (omega); rintro e w1 ⟨v1, rfl, ho1, hb1⟩; have hS1 := Sl.of_owns ho1; obtain ⟨ao1, cap1, rfl, hq1⟩ := id hS1; clear hq1)
    rw [← HL.out] at hS1
    have HS1 := hid hS1
    generalize colsOf h l = C at *
    have hB1 : Below w1.heap.size w1 (w1.alloc (.cells #[.slice ao1 C.length cap1] 24)) := (Below.refl _ _).alloc (Nat.le_refl _) _
    have t6 : (w1.alloc (.cells #[.slice ao1 C.length cap1] 24)).cell? ⟨w1.heap.size, 0, none⟩ = some (.slice ao1 C.length cap1) := by simp [go_sem]
    have hS2 := HS1.out.below hB1
    have hbel := hb1.trans (hB1.mono hb1.size)
    clear ho1 hb1 hB1 HS1 hS1
    rw [HL.out] at t6 hS2 hbel
    generalize w1.alloc (.cells #[.slice ao1 l.length cap1] 24) = w2 at *
    generalize w1.heap.size = g6 at *
    go_upto_region 6 with (go_at_call 12; refine (rowsR h C _ _ h1 h4 hcl HC.out ?_).mono ?_; (rw [HL.out]; exact hS2); rintro e w3 ⟨v3, rfl, hS3, hb3⟩)
    have t6 := keeps hb3 t6
    have hS2 := hS2.below hb3
    have hbel := bel_step hbel hb3
    obtain ⟨ao3, cap3, rfl, hq3⟩ := id hS3
    clear hq3 hb3
    go_upto_region 7 with (go_at_call 13; refine (colsR h C _ _ h1 h4 hcl HC.out ?_).mono ?_; (exact hS3); rintro e w4 ⟨v4, rfl, hS4, hb4⟩)
    have t6 := keeps hb4 t6
    have hS2 := hS2.below hb4
    have hS3 := hS3.below hb4
    have hbel := bel_step hbel hb4
    obtain ⟨ao4, cap4, rfl, hq4⟩ := id hS4
    clear hq4 hb4
    obtain ⟨R, hR⟩ : ∃ R, R = rowsGo h C h.toNat := ⟨_, rfl⟩
    have HR := hid hR
    rw [← HR.out] at hS3 HRL HAny ⊢
    clear hR
    have hb7 : ((R.length : Int) != h) = false := by have := HRL.out; simp; omega
    go_upto_region 9 with (go_at_call 14; refine (equalI C _ _ _ ?_ ?_).mono ?_; (exact hS4); (rw [HL.out]; exact hS2); rintro e w5 ⟨rfl, hb5⟩)
    have t6 := keeps hb5 t6
    have hS2 := hS2.below hb5
    have hS3 := hS3.below hb5
    have hS4 := hS4.below hb5
    have hbel := bel_step hbel hb5
    clear hb5
    go_upto_region 10 with (go_at_call 12; refine (rowsR h C _ _ h1 h4 hcl HC.out ?_).mono ?_; (exact hS4); rintro e w6 ⟨v6, rfl, hS6, hb6⟩)
    have t6 := keeps hb6 t6
    have hS3 := hS3.below hb6
    have hbel := bel_step hbel hb6
    rw [← HR.out] at hS6
    obtain ⟨ao6, cap6, rfl, hq6⟩ := id hS6
    clear hq6 hb6
    have HA2 := hid (show R.any (fun r => decide (r.size ≠ l.length)) = false by have := HAny.out; rwa [HL.out] at this)
    go_wp2_with (first
      | (go_at_call 15; refine (equalS R _ _ _ ?_ ?_).mono ?_; (exact hS6); (exact hS3); rintro e w7 ⟨rfl, hb7⟩; have t6 := keeps hb7 t6; have hS3 := hS3.below hb7; have hbel := bel_step hbel hb7)
      | (go_at_call 16; refine (containR g6 l.length cap1 ao1 _ R _ HA2.out hS3 t6).mono ?_; rintro e w8 ⟨rfl, rfl⟩)
      | (go_at_call 10; refine (awake_any _).mono ?_; rintro e w9 ⟨rfl, hb9⟩; have hbel := bel_step hbel hb9))
    go_ret
    exact ⟨rfl, hbel⟩
  · go_enter Try.func3, Try.ntmps3
    go_wp2_with (go_at_call 10; refine (awake_any _).mono ?_; rintro e w1 ⟨rfl, hb⟩)
    go_ret
    exact ⟨rfl, hb⟩
end Go.Proofs.Ytppflnkadjddiaa
