/-
  reset.search and reset.Shortest at the automaton of the words 0, 10, 11: the word 0.
  What TrailingZeros yields is a hypothesis.
-/
import Derived.Test.YtjcdddccnfiemaaDoorFresh
import Derived.Test.YtjcdddccnfiemaaDoorOnes
namespace Go.Proofs.YtjcdddccnfiemaaDoor
open Go.RowKit
set_option linter.unusedVariables false

set_option maxRecDepth 100000 in
theorem ones64_3 (w : World) : Calls Tryd.prog 63 #[.int .u64 3] w fun e w' => e = .returned (.int .i64 2) ∧ w = w' := by
  go_enter Tryd.func63, Tryd.ntmps63
  go_wp2
  go_ret
  exact ⟨by kernel_rfl, rfl⟩
theorem ones_3 (w : World) : Calls Tryd.prog 43 #[.int .u64 3] w fun e w' => e = .returned (.int .i64 2) ∧ w = w' := by
  go_enter Tryd.func43, Tryd.ntmps43
  go_wp2_with (go_at_call 63; refine (ones64_3 _).mono ?_; rintro e w1 ⟨rfl, rfl⟩)
  go_ret
  exact ⟨rfl, rfl⟩
theorem single_3 (w : World) : Calls Tryd.prog 25 #[.int .i64 3] w fun e w' => e = .returned (.bool false) ∧ w = w' := by
  go_enter Tryd.func25, Tryd.ntmps25
  go_wp2_with (go_at_call 43; refine (ones_3 _).mono ?_; rintro e w1 ⟨rfl, rfl⟩)
  go_ret
  exact ⟨rfl, rfl⟩
theorem single_1 (w : World) : Calls Tryd.prog 25 #[.int .i64 1] w fun e w' => e = .returned (.bool true) ∧ w = w' := single_pow 0 (by decide) w
set_option maxRecDepth 100000 in
set_option maxHeartbeats 4000000 in
theorem search_ex (v : Value) (f : Nat → Nat → Int) (w : World) (hM : Mt w v 2 2 f) (hf : Ex f) (hT : TzAt w) :
    Calls Tryd.prog 36 #[.agg #[.int .i64 2, v], .int .i64 3] w fun e w' => e = .returned (.tuple #[.string ⟨#[48]⟩, .bool true]) ∧ Below w.heap.size w w' := by
  have HFr := hid (fun (bq bm bx : Nat) (ao : Option Addr) (X : World) => fresh_ex v f bq bm bx ao w X hM hf hT)
  obtain ⟨ar, cap, rfl, hc1, hc2⟩ := hM.slice
  clear hM hf hT
  go_enter Tryd.func36, Tryd.ntmps36
  go_upto_region 1 with fail
  obtain ⟨w0, hw0⟩ : ∃ w0, w.alloc (.cells #[.int .i64 2, .slice ar 2 cap] 29) = w0 := ⟨_, rfl⟩
  have hb0 : Below w.heap.size w w0 := by rw [← hw0]; exact bel_alloc _ _
  have c0 : w0.cell? ⟨w.heap.size, 0, none⟩ = some (.int .i64 2) := by rw [← hw0]; simp
  have c1 : w0.cell? ⟨w.heap.size, 1, none⟩ = some (.slice ar 2 cap) := by rw [← hw0]; simp
  rw [hw0]
  have HS0 := hid (show w0.heap.size = w.heap.size + 1 by rw [← hw0]; simp)
  clear hw0
  have hmm := @run_makeMap Tryd.prog
  obtain ⟨w2, hrun, hB2, hg2⟩ := (BZ.made (w0.alloc (.cells #[.int .i64 3, .string ⟨#[]⟩] 99))).store (by omega) 3 (by unfold Ok64; omega)
  rw [World.size_alloc] at hrun hB2 hg2
  have r0 : w2.cell? ⟨w0.heap.size, 0, none⟩ = some (.int .i64 3) := hg2.cell (by simp) (by simp)
  have r1 : w2.cell? ⟨w0.heap.size, 1, none⟩ = some (.string ⟨#[]⟩) := hg2.cell (by simp) (by simp)
  have hb2 : Below w.heap.size w w2 := Below.grown ((hb0.alloc hb0.size _).alloc (by simp; have := hb0.size; omega) _) hg2 (by simp; have := hb0.size; omega) (fun k hk => by cases hk; have := hb0.size; omega)
  have c0' := hg2.cell (a := ⟨w.heap.size, 0, none⟩) (keeps (bel_alloc _ _) (keeps (bel_alloc _ _) c0)) (by have := HS0.out; simp only [ne_eq, Option.some.injEq]; omega)
  have c1' := hg2.cell (a := ⟨w.heap.size, 1, none⟩) (keeps (bel_alloc _ _) (keeps (bel_alloc _ _) c1)) (by have := HS0.out; simp only [ne_eq, Option.some.injEq]; omega)
  have HB2 := hid (And.intro hB2 hb2)
  have HSz := hid (show w0.heap.size + 2 ≤ w2.heap.size by have := hg2.size; simpa using this)
  clear hB2 hb2 hg2 c0 c1
  go_upto_region 2 with fail
  obtain ⟨w3, hw3⟩ : ∃ w3, w2.alloc (.cells #[.slice (some ⟨w0.heap.size, 0, none⟩) 1 1] 100) = w3 := ⟨_, rfl⟩
  have hb3 : Below w2.heap.size w2 w3 := by rw [← hw3]; exact bel_alloc _ _
  have cq : w3.cell? ⟨w2.heap.size, 0, none⟩ = some (.slice (some ⟨w0.heap.size, 0, none⟩) 1 1) := by rw [← hw3]; simp
  have fq : w3.frozen? ⟨w2.heap.size, 0, none⟩ = false := by rw [← hw3]; exact frozen_laid (Below.refl _ _) 0
  rw [hw3]
  have c0 := keeps hb3 c0'
  have c1 := keeps hb3 c1'
  have r0 := keeps hb3 r0
  have r1 := keeps hb3 r1
  have HB3 := hid (And.intro (HB2.out.1.below hb3) (HB2.out.2.trans (hb3.mono HB2.out.2.size)))
  have HSz3 := hid (show w3.heap.size = w2.heap.size + 1 by rw [← hw3]; simp)
  have HA := hid (And.intro cq (And.intro fq (And.intro c0 (And.intro c1 (And.intro r0 r1)))))
  clear hw3 hb3 c0' c1' hrun hmm cq fq c0 c1 r0 r1
  generalize hN0 : w0.heap.size = N0 at *
  generalize hN2 : w2.heap.size = N2 at *
  go_loopw [8] (fun x wr => Below w.heap.size w wr ∧ ((wr = w3) ∨ (wr.heap.size ≠ w3.heap.size ∧ Got N2 wr))) (fun _ wr => if wr.heap.size = w3.heap.size then 1 else 0)
  case atStart => exact ⟨HB3.out.2, .inl rfl⟩
  case round =>
    obtain ⟨hb, rfl | ⟨hne, hG⟩⟩ := hrel
    · obtain ⟨cq, fq, c0, c1, r0, r1⟩ := HA.out
      clear hb
      go_upto_region 4 with fail
      obtain ⟨wx, hwx⟩ : ∃ wx, wr.alloc (.cells #[.int .i64 3, .string ⟨#[]⟩] 99) = wx := ⟨_, rfl⟩
      have hbx : Below wr.heap.size wr wx := by rw [← hwx]; exact bel_alloc _ _
      have x0 : wx.cell? ⟨wr.heap.size, 0, none⟩ = some (.int .i64 3) := by rw [← hwx]; simp
      have x1 : wx.cell? ⟨wr.heap.size, 1, none⟩ = some (.string ⟨#[]⟩) := by rw [← hwx]; simp
      rw [hwx]
      have fq := keeps_frozen hbx cq fq
      have cq := keeps hbx cq
      have c0 := keeps hbx c0
      have c1 := keeps hbx c1
      have HBx := hid (And.intro (HB3.out.1.below hbx) (HB3.out.2.trans (hbx.mono HB3.out.2.size)))
      have HX1 := hid x1
      clear hwx r0 r1 x1
      go_upto_region 5 with fail
      have hlq := World.block_lt_of_cell? _ _ cq
      obtain ⟨wq, hwq⟩ : ∃ wq, wx.setCell ⟨N2, 0, none⟩ (.slice (some ⟨N0, 0, none⟩) 0 0) = wq := ⟨_, rfl⟩
      have d0 : N2 < wr.heap.size := by have := HSz3.out; omega
      have d1 : N0 + 2 ≤ N2 := HSz.out
      have d2 : w.heap.size < N0 := by have := HS0.out; omega
      have cq2 : wq.cell? ⟨N2, 0, none⟩ = some (.slice (some ⟨N0, 0, none⟩) 0 0) := by rw [← hwq]; exact World.cell?_setCell_same _ _ _ cq
      have fq2 : wq.frozen? ⟨N2, 0, none⟩ = false := by rw [← hwq, World.frozen?_setCell]; exact fq
      have c02 : wq.cell? ⟨w.heap.size, 0, none⟩ = some (.int .i64 2) := by rw [← hwq]; exact (World.cell?_setCell_other _ _ _ _ (by simp <;> omega)).trans c0
      have c12 : wq.cell? ⟨w.heap.size, 1, none⟩ = some (.slice ar 2 cap) := by rw [← hwq]; exact (World.cell?_setCell_other _ _ _ _ (by simp <;> omega)).trans c1
      have x02 : wq.cell? ⟨wr.heap.size, 0, none⟩ = some (.int .i64 3) := by rw [← hwq]; exact (World.cell?_setCell_other _ _ _ _ (by simp <;> omega)).trans x0
      have x12 : wq.cell? ⟨wr.heap.size, 1, none⟩ = some (.string ⟨#[]⟩) := by rw [← hwq]; exact (World.cell?_setCell_other _ _ _ _ (by simp <;> omega)).trans HX1.out
      have hB4 : BZ wq (N0 + 1) 1 (fun s => decide (s = 3)) := (HBx.out.1.same (by rw [← hwq]; exact Below.heap_setCell _ _ _ _ (by show N0 + 1 ≠ N2; omega))).congr fun s => by simp
      have hb4 : Below w.heap.size w wq := by rw [← hwq]; exact HBx.out.2.setCell (by show w.heap.size ≤ N2; omega) _
      have hs4 : wr.heap.size < wq.heap.size := World.block_lt_of_cell? _ _ x02
      rw [hwq]
      have HE := hid (HFr.out N2 (N0 + 1) wr.heap.size (some ⟨N0, 0, none⟩) wq hb4 (by omega) (by omega) (by omega) (by omega) hB4 cq2 fq2 x12)
      clear hwq cq fq c0 c1 x0 cq2 fq2 x12 hB4 hlq
      have HD := hid hs4
      clear d0 d1 d2 hs4 hb4
      go_wp2_with (first
        | (go_at_call 25; refine (single_3 _).mono ?_; rintro e w5 ⟨rfl, rfl⟩)
        | (go_at_call 58; refine HE.out.mono ?_; rintro e w6 ⟨rfl, hb6, hs6, hG6⟩; have HB6 := hid hb6; have HS6 := hid hs6; have HG6 := hid hG6; clear hb6 hs6 hG6))
      go_roundw
      case rel => exact ⟨HB6.out, .inr ⟨by have := HD.out; have := HS6.out; omega, HG6.out⟩⟩
      case measure => have := HD.out; have := HS6.out; simp; omega
    · obtain ⟨g, c, hc, cq, fq, r0, r1⟩ := hG
      have HBw := hid hb
      have hlq := World.block_lt_of_cell? _ _ cq
      have hlq2 : N2 < wr.heap.size := hlq
      clear hb hne
      have HHc := hid hc
      go_upto_region 4 with fail
      obtain ⟨wx, hwx⟩ : ∃ wx, wr.alloc (.cells #[.int .i64 1, .string ⟨#[48]⟩] 99) = wx := ⟨_, rfl⟩
      have hbx : Below wr.heap.size wr wx := by rw [← hwx]; exact bel_alloc _ _
      have x0 : wx.cell? ⟨wr.heap.size, 0, none⟩ = some (.int .i64 1) := by rw [← hwx]; simp
      have x1 : wx.cell? ⟨wr.heap.size, 1, none⟩ = some (.string ⟨#[48]⟩) := by rw [← hwx]; simp
      rw [hwx]
      have fq := keeps_frozen hbx cq fq
      have cq := keeps hbx cq
      have HBx := hid (HBw.out.trans (hbx.mono HBw.out.size))
      clear hwx r0 r1
      have hd2 : w.heap.size ≤ N2 := by have := HS0.out; have := HSz.out; omega
      have x02 : ∀ u, (wx.setCell ⟨N2, 0, none⟩ u).cell? ⟨wr.heap.size, 0, none⟩ = some (.int .i64 1) := fun u => (World.cell?_setCell_other _ _ _ _ (by simp <;> omega)).trans x0
      have x12 : ∀ u, (wx.setCell ⟨N2, 0, none⟩ u).cell? ⟨wr.heap.size, 1, none⟩ = some (.string ⟨#[48]⟩) := fun u => (World.cell?_setCell_other _ _ _ _ (by simp <;> omega)).trans x1
      have hb4 : ∀ u, Below w.heap.size w (wx.setCell ⟨N2, 0, none⟩ u) := fun u => HBx.out.setCell (by show w.heap.size ≤ N2; exact hd2) _
      have HB4 := hid hb4
      clear x0 x1 hb4 hd2 hlq hlq2
      by_cases e : c = 1
      · subst e
        go_wp2_with (go_at_call 25; refine (single_1 _).mono ?_; rintro e w5 ⟨rfl, rfl⟩)
        refine bodyPost_ret (v := .tuple #[.string ⟨#[48]⟩, .bool true]) ?_ rfl ⟨rfl, HB4.out _⟩
        simp [results, Tryd.results36, go_sem]
      · go_wp2_with (go_at_call 25; refine (single_1 _).mono ?_; rintro e w5 ⟨rfl, rfl⟩)
        refine bodyPost_ret (v := .tuple #[.string ⟨#[48]⟩, .bool true]) ?_ rfl ⟨rfl, HB4.out _⟩
        simp [results, Tryd.results36, go_sem]
end Go.Proofs.YtjcdddccnfiemaaDoor
