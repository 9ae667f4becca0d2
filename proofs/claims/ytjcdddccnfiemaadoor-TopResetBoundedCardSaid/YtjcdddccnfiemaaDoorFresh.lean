/-
  reset.fresh at the automaton of the words 0, 10, 11 and all its states: the queue gets the state behind 0.
  What TrailingZeros yields is a hypothesis.
-/
import Derived.Test.YtjcdddccnfiemaaDoorStepS
import Derived.Test.YtjcdddccnfiemaaDoorEach
import Derived.Test.YtjcdddccnfiemaaDoorSetMap
import Derived.Deep.RegionHeld3
namespace Go.Proofs.YtjcdddccnfiemaaDoor
open Go.RowKit
set_option linter.unusedVariables false

theorem img_eq {S O O' : Nat} {f : Nat → Nat} (h : ImgOf S f O) (h' : ImgOf S f O') : O = O' := by
  apply Nat.eq_of_testBit_eq
  intro i
  have h1 := h i
  have h2 := h' i
  rw [Bool.eq_iff_iff, h1, h2]
theorem bit3 (s : Nat) : Nat.testBit 3 s = true ↔ s = 0 ∨ s = 1 := by
  constructor
  · intro h
    apply Classical.byContradiction
    intro h2
    rw [Nat.testBit_lt_two_pow (Nat.lt_of_lt_of_le (show 3 < 2 ^ 2 by decide) (Nat.pow_le_pow_right (by decide) (show 2 ≤ s by omega)))] at h
    cases h
  · rintro (rfl | rfl) <;> rfl
theorem bit1 (s : Nat) : Nat.testBit 1 s = true ↔ s = 0 := by
  constructor
  · intro h
    apply Classical.byContradiction
    intro h2
    rw [Nat.testBit_lt_two_pow (Nat.lt_of_lt_of_le (show 1 < 2 ^ 1 by decide) (Nat.pow_le_pow_right (by decide) (show 1 ≤ s by omega)))] at h
    cases h
  · rintro rfl; rfl
/-- The automaton of the example. -/
structure Ex (f : Nat → Nat → Int) : Prop where
  a : f 0 0 = 0
  b : f 1 0 = 0
  c : f 0 1 = 1
  d : f 1 1 = 0
theorem Ex.zero {f : Nat → Nat → Int} (h : Ex f) : ImgOf 3 (fun s => (f s 0).toNat) 1 := by
  intro i
  rw [bit1]
  constructor
  · rintro rfl; exact ⟨0, rfl, by show (f 0 0).toNat = 0; rw [h.a]; rfl⟩
  · rintro ⟨s, hs, rfl⟩
    rcases (bit3 s).1 hs with rfl | rfl
    · show (f 0 0).toNat = 0; rw [h.a]; rfl
    · show (f 1 0).toNat = 0; rw [h.b]; rfl
theorem Ex.one {f : Nat → Nat → Int} (h : Ex f) : ImgOf 3 (fun s => (f s 1).toNat) 3 := by
  intro i
  rw [bit3]
  constructor
  · rintro (rfl | rfl)
    · exact ⟨1, rfl, by show (f 1 1).toNat = 0; rw [h.d]; rfl⟩
    · exact ⟨0, rfl, by show (f 0 1).toNat = 1; rw [h.c]; rfl⟩
  · rintro ⟨s, hs, rfl⟩
    rcases (bit3 s).1 hs with rfl | rfl
    · right; show (f 0 1).toNat = 1; rw [h.c]; rfl
    · left; show (f 1 1).toNat = 0; rw [h.d]; rfl
theorem Ex.low {f : Nat → Nat → Int} (h : Ex f) : ∀ i < 2, ∀ j < 2, 0 ≤ f i j ∧ f i j < (2 : Nat) := by
  intro i hi j hj
  have h1 : i = 0 ∨ i = 1 := by omega
  have h2 : j = 0 ∨ j = 1 := by omega
  rcases h1 with rfl | rfl <;> rcases h2 with rfl | rfl
  · rw [h.a]; decide
  · rw [h.c]; decide
  · rw [h.b]; decide
  · rw [h.d]; decide
theorem TzAt.later {w X : World} (h : TzAt w) (hb : Below w.heap.size w X) : TzAt X := fun x Y h1 h2 h3 => h x Y h1 h2 (hb.trans (h3.mono hb.size))
/-- The queue's only element. -/
def Got (bq : Nat) (w : World) : Prop := ∃ g c, 1 ≤ c ∧ w.cell? ⟨bq, 0, none⟩ = some (.slice (some ⟨g, 0, none⟩) 1 c) ∧ w.frozen? ⟨bq, 0, none⟩ = false ∧ w.cell? ⟨g, 0, none⟩ = some (.int .i64 1) ∧ w.cell? ⟨g, 1, none⟩ = some (.string ⟨#[48]⟩)
theorem Got.below {bq : Nat} {w w' : World} (h : Got bq w) (hb : Below w.heap.size w w') : Got bq w' := by
  obtain ⟨g, c, h0, h1, h2, h3, h4⟩ := h
  exact ⟨g, c, h0, keeps hb h1, keeps_frozen hb h1 h2, keeps hb h3, keeps hb h4⟩
set_option maxRecDepth 100000 in
set_option maxHeartbeats 4000000 in
theorem fresh_ex (v : Value) (f : Nat → Nat → Int) (bq bm bx : Nat) (ao : Option Addr) (wS w : World) (hM : Mt wS v 2 2 f) (hf : Ex f) (hT : TzAt wS) (hb : Below wS.heap.size wS w) (hq : wS.heap.size ≤ bq) (hm : wS.heap.size ≤ bm) (hne : bm ≠ bq) (hnx : bm ≠ bx)
    (hB : BZ w bm 1 (fun s => decide (s = 3))) (cq : w.cell? ⟨bq, 0, none⟩ = some (.slice ao 0 0)) (fq : w.frozen? ⟨bq, 0, none⟩ = false) (cx : w.cell? ⟨bx, 1, none⟩ = some (.string ⟨#[]⟩)) :
    Calls Tryd.prog 58 #[.agg #[.int .i64 2, v], .int .i64 3, .map (some bm), .func (.func 59) #[] #[.pointer (some ⟨bq, 0, none⟩), .pointer (some ⟨bx, 0, none⟩)]] w fun e w' => e = .returned (.tuple #[]) ∧ Below wS.heap.size wS w' ∧ w.heap.size ≤ w'.heap.size ∧ Got bq w' := by
  have HM := hid hM
  have HF := hid hf
  have HT := hid hT
  have HSt := hid (fun a ha X (hX : Below wS.heap.size wS X) => step_any 2 v 2 2 a 3 f X (hM.below hX) hf.low (by decide) ha (by decide) (hT.later hX))
  obtain ⟨ar, cap, rfl, hc1, hc2⟩ := hM.slice
  clear hM hf hT
  go_enter Tryd.func58, Tryd.ntmps58
  go_upto_region 1 with fail
  obtain ⟨w0, hw0⟩ : ∃ w0, w.alloc (.cells #[.int .i64 2, .slice ar 2 cap] 29) = w0 := ⟨_, rfl⟩
  have hb0 : Below w.heap.size w w0 := by rw [← hw0]; exact bel_alloc _ _
  have c0 : w0.cell? ⟨w.heap.size, 0, none⟩ = some (.int .i64 2) := by rw [← hw0]; simp
  have c1 : w0.cell? ⟨w.heap.size, 1, none⟩ = some (.slice ar 2 cap) := by rw [← hw0]; simp
  have hB0 := hB.below hb0
  have fq0 := keeps_frozen hb0 cq fq
  have cq0 := keeps hb0 cq
  have cx0 := keeps hb0 cx
  rw [hw0]
  have HB0 := hid (hb.trans (hb0.mono hb.size))
  have HQ0 := hid (And.intro hB0 (And.intro cq0 (And.intro fq0 cx0)))
  have hsz0 : w.heap.size ≤ w0.heap.size := hb0.size
  have hlq : bq < w.heap.size := World.block_lt_of_cell? _ _ cq
  have hlm := hB.lt
  have hlx : bx < w.heap.size := World.block_lt_of_cell? _ _ cx
  clear hw0 hb0 hB0 fq0 cq0 cx0 hB cq fq cx
  go_wp2_with fail
  have HC := hid (And.intro c0 c1)
  clear c0 c1
  go_loopw [12] (fun i wr => Below wS.heap.size wS wr ∧ w.heap.size ≤ wr.heap.size ∧ wr.cell? ⟨w.heap.size, 0, none⟩ = some (.int .i64 2) ∧ wr.cell? ⟨w.heap.size, 1, none⟩ = some (.slice ar 2 cap) ∧ ((i = .int .i64 0 ∧ BZ wr bm 1 (fun s => decide (s = 3)) ∧ wr.cell? ⟨bq, 0, none⟩ = some (.slice ao 0 0) ∧ wr.frozen? ⟨bq, 0, none⟩ = false ∧ wr.cell? ⟨bx, 1, none⟩ = some (.string ⟨#[]⟩)) ∨ (i = .int .i64 1 ∧ BZ wr bm 2 (fun t => decide (t = 1) || decide (t = 3)) ∧ Got bq wr) ∨ (i = .int .i64 2 ∧ Got bq wr))) (fun i _ => 2 - (intOf i).toNat)
  case atStart => exact ⟨HB0.out, hsz0, HC.out.1, HC.out.2, .inl ⟨rfl, HQ0.out⟩⟩
  case round =>
    obtain ⟨hbr, hsz, c0, c1, ⟨rfl, hB, cq, fq, cx⟩ | ⟨rfl, hB, hG⟩ | ⟨rfl, hG⟩⟩ := hrel
    · have HBr := hid hbr
      have HX := hid (And.intro cq (And.intro fq cx))
      have HMp := hid hB
      clear hbr hB cq fq cx
      go_upto_region 5 with (go_at_call 44; refine (HSt.out 0 (by decide) _ HBr.out).mono ?_; rintro e w1 ⟨O, rfl, hO, hb1⟩; obtain rfl := img_eq hO HF.out.zero; have c0 := keeps hb1 c0; have c1 := keeps hb1 c1; have HB1 := hid (bel_step HBr.out hb1); have HY := hid (And.intro (keeps hb1 HX.out.1) (And.intro (keeps_frozen hb1 HX.out.1 HX.out.2.1) (keeps hb1 HX.out.2.2))); have HMp1 := hid (HMp.out.below hb1); clear hb1 hO)
      have hlook := HMp1.out.look 1 (by unfold Ok64; omega)
      obtain ⟨w2, hrun, hB2, hg2⟩ := HMp1.out.store (by omega) 1 (by unfold Ok64; omega)
      have c0' := hg2.cell c0 (by simp only [ne_eq, Option.some.injEq]; omega)
      have c1' := hg2.cell c1 (by simp only [ne_eq, Option.some.injEq]; omega)
      have cq' := hg2.cell HY.out.1 (by simp only [ne_eq, Option.some.injEq]; omega)
      have fq' := (hg2.frozen_far ⟨bq, 0, none⟩ (World.block_lt_of_cell? _ _ HY.out.1) (by simp only [ne_eq, Option.some.injEq]; omega)).trans HY.out.2.1
      have cx' := hg2.cell HY.out.2.2 (by simp only [ne_eq, Option.some.injEq]; omega)
      have HB2 := hid (HB1.out.grown hg2 HB1.out.size (fun k hk => by cases hk; exact hm))
      have HBm2 := hid hB2
      have HE := hid (each_any 0 bq bx 1 ao w2 (by decide) cq' fq' cx')
      have HSz := hid (show w.heap.size ≤ w2.heap.size from Nat.le_trans (Nat.le_of_lt (by have := World.block_lt_of_cell? _ _ c0; exact this)) hg2.size)
      clear hB2 hg2 cq' fq' cx' c0 c1
      go_wp2_with (go_at_call 59; refine HE.out.mono ?_; rintro e w3 ⟨rfl, hg3, g, cp, e0, e1, e2, e3, e4⟩; have HB3 := hid (HB2.out.grown hg3 HB2.out.size (fun k hk => by cases hk; exact hq)); have HG3 := hid (show Got bq w3 from ⟨g, cp, e0, e1, e2, e3, e4⟩); have c0 := hg3.cell c0' (by simp only [ne_eq, Option.some.injEq]; omega); have c1 := hg3.cell c1' (by simp only [ne_eq, Option.some.injEq]; omega); have HM3 := hid (HBm2.out.same (hg3.block bm HBm2.out.lt (by simp only [ne_eq, Option.some.injEq]; omega))); have HS3 := hid (Nat.le_trans HSz.out hg3.size); clear hg3 e0 e1 e2 e3 e4)
      go_roundw
      case rel => exact ⟨HB3.out, HS3.out, c0, c1, .inr (.inl ⟨by go_num, HM3.out, HG3.out⟩)⟩
      case measure => simp [intOf]
    · have HBr := hid hbr
      have HG := hid hG
      have HMp := hid hB
      clear hbr hB hG
      go_upto_region 5 with (go_at_call 44; refine (HSt.out 1 (by decide) _ HBr.out).mono ?_; rintro e w1 ⟨O, rfl, hO, hb1⟩; obtain rfl := img_eq hO HF.out.one; have c0 := keeps hb1 c0; have c1 := keeps hb1 c1; have HB1 := hid (bel_step HBr.out hb1); have HG1 := hid (HG.out.below hb1); have HMp1 := hid (HMp.out.below hb1); have HS1 := hid (Nat.le_trans hsz hb1.size); clear hb1 hO)
      have hlook := HMp1.out.look 3 (by unfold Ok64; omega)
      go_wp2
      go_roundw
      case rel => exact ⟨HB1.out, HS1.out, c0, c1, .inr (.inr ⟨by go_num, HG1.out⟩)⟩
      case measure => simp [intOf]
    · have HBr := hid hbr
      clear hbr
      have HG := hid hG
      clear hG
      go_wp2_with fail
      go_end0
      exact ⟨rfl, HBr.out, hsz, HG.out⟩
end Go.Proofs.YtjcdddccnfiemaaDoor
