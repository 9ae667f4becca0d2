/-
  groovetop.top53Awake: the example holds.
  No condition.
-/
import Derived.Test.YtobbinppkjmhhaaDoorMrg
import Derived.Test.YtobbinppkjmhhaaDoorEncSide
import Derived.Test.YtobbinppkjmhhaaDoorSlices
import Derived.Deep.QuietTactic
namespace Go.Proofs.YtobbinppkjmhhaaDoor
open Go.RowKit Go.Deep
set_option linter.unusedVariables false

theorem lit_mc (w w2 : World) (h : (w.alloc (.cells #[.int .i64 1, .string ⟨#[48]⟩, .int .i64 0, .string ⟨#[49]⟩] 33)).alloc (.cells #[.slice (some ⟨w.heap.size, 0, none⟩) 2 2, .slice (some ⟨w.heap.size, 0, none⟩) 2 2] 34) = w2) : MC w2 (.slice (some ⟨w.heap.size + 1, 0, none⟩) 2 2) eqRows ∧ Below w.heap.size w w2 := by
  subst h
  generalize hw1 : w.alloc (.cells #[.int .i64 1, .string ⟨#[48]⟩, .int .i64 0, .string ⟨#[49]⟩] 33) = w1
  have hs1 : w1.heap.size = w.heap.size + 1 := by rw [← hw1]; simp
  have h1 : Sl 2 w1 (.slice (some ⟨w.heap.size, 0, none⟩) 2 2) 2 (ccells eqRow) := by
    rw [← hw1]
    refine ⟨_, 2, rfl, rfl, by omega, by omega, .inr ⟨_, 0, rfl, fun j u hj => ?_⟩⟩
    rw [cell_of_row _ w.heap.size (0 + j) #[.int .i64 1, .string ⟨#[48]⟩, .int .i64 0, .string ⟨#[49]⟩] 33 (0, 0) (heap_alloc_new w _), Nat.zero_add]
    simpa [ccells, eqRow] using hj
  have h2 : Sl 1 (w1.alloc (.cells #[.slice (some ⟨w.heap.size, 0, none⟩) 2 2, .slice (some ⟨w.heap.size, 0, none⟩) 2 2] 34)) (.slice (some ⟨w.heap.size + 1, 0, none⟩) 2 2) 2 [.slice (some ⟨w.heap.size, 0, none⟩) 2 2, .slice (some ⟨w.heap.size, 0, none⟩) 2 2] := by
    rw [← hs1]
    refine ⟨_, 2, rfl, rfl, by omega, by omega, .inr ⟨_, 0, rfl, fun j u hj => ?_⟩⟩
    rw [cell_of_row _ w1.heap.size (0 + j) _ 34 (0, 0) (heap_alloc_new w1 _), Nat.zero_add]
    simpa using hj
  refine ⟨⟨_, h2, fun i row hi => ?_⟩, ?_⟩
  · match i, hi with
    | 0, hi => cases hi; exact ⟨_, rfl, h1.below (bel_alloc _ _)⟩
    | 1, hi => cases hi; exact ⟨_, rfl, h1.below (bel_alloc _ _)⟩
  · rw [← hw1]
    exact (bel_alloc _ _).alloc (by simp) _
theorem small_mg : SmallE 2 1 2 mgRows := ⟨eErr_zero (by decide +kernel), by decide, by decide⟩
theorem lit_ints2 (w : World) : Sl 1 (w.alloc (.cells #[.int .i64 0, .int .i64 0] 3)) (.slice (some ⟨w.heap.size, 0, none⟩) 2 2) 2 (ints [0, 0]) := by
  refine ⟨_, 2, rfl, rfl, by omega, by omega, .inr ⟨_, 0, rfl, fun j u hj => ?_⟩⟩
  rw [cell_of_row _ w.heap.size (0 + j) _ 3 (0, 0) (heap_alloc_new w _), Nat.zero_add]
  simpa [ints] using hj
theorem box3T {w w0 : World} {a b c : Value} {T : TypeId} (h : w.alloc (.cells #[a, b, c] T) = w0) : Below w.heap.size w w0 ∧ w0.cell? ⟨w.heap.size, 0, none⟩ = some a ∧ w0.cell? ⟨w.heap.size, 1, none⟩ = some b ∧ w0.cell? ⟨w.heap.size, 2, none⟩ = some c := by
  subst h
  exact ⟨bel_alloc _ _, by simp, by simp, by simp⟩
set_option maxRecDepth 100000 in
set_option maxHeartbeats 8000000 in
theorem awake_any (w : World) :
    Calls Tryd.prog 4 #[] w fun e w' => e = .returned (.bool true) ∧ Below w.heap.size w w' := by
  have hw1 : wid mgRows.length + wid 2 = 1 := by decide +kernel
  have HMg := hid merge_two
  have HEn := hid (fun v X h => encoder_any 2 1 2 v mgRows X h (by decide +kernel) small_mg)
  have hPe := encP_prog small_mg
  have HAg := hid (fun v vc vo X h1 h2 h3 => agree_ok 2 1 2 v vc vo mgRows (encP 2 1 2 mgRows).1.code (encP 2 1 2 mgRows).2 X h1 h2 h3 (by decide +kernel) small_mg.v (by omega) hPe (encP_len 2 1 2 mgRows) fun s k row x hs hk hrow hx => encP_out small_mg hs hk hrow hx)
  have HEq := hid (fun v1 v2 X (h1 : Sl 1 X v1 2 (ints [0, 0])) (h2 : Sl 1 X v2 2 (ints [0, 0])) => equalInts_any v1 v2 [0, 0] [0, 0] X h1 h2)
  rw [show eqb ([0, 0] : List Int) [0, 0] = true from rfl] at HEq
  clear hPe
  generalize encP 2 1 2 mgRows = P at *
  rw [hw1] at HEn HAg
  generalize P.1.code.length = PL at *
  generalize P.2.length = OL at *
  generalize icells P.1.code = IC at *
  generalize ints P.2 = IO at *
  go_enter Tryd.func4, Tryd.ntmps4
  go_upto_region 3 with fail
  obtain ⟨wl, hwl⟩ : ∃ wl, (w.alloc (.cells #[.int .i64 1, .string ⟨#[48]⟩, .int .i64 0, .string ⟨#[49]⟩] 33)).alloc (.cells #[.slice (some ⟨w.heap.size, 0, none⟩) 2 2, .slice (some ⟨w.heap.size, 0, none⟩) 2 2] 34) = wl := ⟨_, rfl⟩
  obtain ⟨hml, hbl⟩ := lit_mc w wl hwl
  have hsl : wl.heap.size = w.heap.size + 1 + 1 := by rw [← hwl]; simp
  rw [hwl, ← hsl]
  have HM := hid hml
  have HB := hid hbl
  clear hwl hml hbl hsl
  obtain ⟨w0, hw0⟩ : ∃ w0, wl.alloc (.cells #[.int .i64 2, .int .i64 1, .int .i64 2, .slice (some ⟨w.heap.size + 1, 0, none⟩) 2 2] 37) = w0 := ⟨_, rfl⟩
  obtain ⟨hb0, c0, c1, c2, c3⟩ := boxedE hw0
  rw [hw0]
  have HM0 := hid (HM.out.below hb0)
  have HB0 := hid (bel_step HB.out hb0)
  clear hw0 hb0 HM HB
  generalize wl.heap.size = be at *
  go_upto_region 4 with (go_at_call 7; refine (HMg.out _ w0 HM0.out).mono ?_; rintro e w1 ⟨v1, vl, rfl, hm1, hl1, hb1⟩; obtain ⟨am, cm, rfl, hc1, hc2⟩ := hm1.slice; obtain ⟨al, kl, rfl, _⟩ := id hl1; have HM1 := hid hm1; have HL1 := hid hl1; have HB1 := hid (bel_step HB0.out hb1); clear hm1 hl1 hb1)
  have hmg : mgRows.length = 1 := rfl
  rw [hmg] at HM1 hc1 ⊢
  clear HMg hmg c0 c1 c2 c3
  obtain ⟨w2, hw2⟩ : ∃ w2, w1.alloc (.cells #[.int .i64 2, .int .i64 1, .int .i64 2, .slice am 1 cm] 37) = w2 := ⟨_, rfl⟩
  obtain ⟨hb2, c0, c1, c2, c3⟩ := boxedE hw2
  rw [hw2]
  have HM2 := hid (HM1.out.below hb2)
  have HL2 := hid (HL1.out.below hb2)
  have HB2 := hid (bel_step HB1.out hb2)
  clear hw2 hb2 HM1 HL1
  generalize w1.heap.size = bm at *
  go_upto_region 5 with (go_at_call 8; refine (HEn.out _ w2 HM2.out).mono ?_; rintro e w3 ⟨vc, vo, rfl, hvc, hvo, hb3⟩; have HC3 := hid hvc; have HO3 := hid hvo; obtain ⟨ac, cc, rfl, _, _, _, _⟩ := hvc; obtain ⟨ao2, co, rfl, _, _, _, _⟩ := hvo; have c0 := keeps hb3 c0; have c1 := keeps hb3 c1; have c2 := keeps hb3 c2; have c3 := keeps hb3 c3; have HB3 := hid (bel_step HB2.out hb3); have HM3 := hid (HM2.out.below hb3); have HL3 := hid (HL2.out.below hb3); clear hb3)
  clear HEn HM2 HL2
  rw [show ((1 : Nat) : Int) = 1 from rfl] at *
  obtain ⟨w4, hw4⟩ : ∃ w4, w3.alloc (.cells #[.int .i64 1, .slice ac PL cc, .slice ao2 OL co] 43) = w4 := ⟨_, rfl⟩
  obtain ⟨hb4, d0, d1, d2⟩ := box3T hw4
  rw [hw4]
  have c0 := keeps hb4 c0
  have c1 := keeps hb4 c1
  have c2 := keeps hb4 c2
  have c3 := keeps hb4 c3
  have HC4 := hid (HC3.out.below hb4)
  have HO4 := hid (HO3.out.below hb4)
  have HM4 := hid (HM3.out.below hb4)
  have HL4 := hid (HL3.out.below hb4)
  have HB4 := hid (bel_step HB3.out hb4)
  clear hw4 hb4 HC3 HO3 HM3 HL3
  generalize w3.heap.size = bp at *
  go_upto_region 6 with (go_at_call 9; refine (HAg.out _ _ _ w4 HM4.out HC4.out HO4.out).mono ?_; rintro e w5 ⟨rfl, hb5⟩; have c0 := keeps hb5 c0; have c1 := keeps hb5 c1; have c2 := keeps hb5 c2; have c3 := keeps hb5 c3; have d0 := keeps hb5 d0; have HB5 := hid (bel_step HB4.out hb5); have HL5 := hid (HL4.out.below hb5); clear hb5)
  clear HAg d1 d2
  go_wp2_with (go_at_call 10; refine (HEq.out _ _ _ (HL5.out.below (bel_alloc _ _)) (lit_ints2 w5)).mono ?_; rintro e w6 ⟨rfl, hb6⟩; have hb7 := bel_step (bel_alloc w5 _) (hb6.below _); have d0 := keeps hb7 d0; have HB7 := hid (bel_step HB5.out hb7); clear hb6 hb7)
  go_ret
  exact ⟨rfl, HB7.out⟩
end Go.Proofs.YtobbinppkjmhhaaDoor
