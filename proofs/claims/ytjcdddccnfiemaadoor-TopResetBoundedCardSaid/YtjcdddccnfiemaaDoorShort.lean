/-
  reset.check at a good automaton and a word; reset.Shortest at the automaton of the words 0, 10, 11.
  What TrailingZeros yields is a hypothesis.
-/
import Derived.Test.YtjcdddccnfiemaaDoorSearch
import Derived.Test.YtjcdddccnfiemaaDoorRCheck
import Derived.Test.YtjcdddccnfiemaaDoorAllS
import Derived.Test.YtjcdddccnfiemaaDoorWordCk
namespace Go.Proofs.YtjcdddccnfiemaaDoor
open Go.RowKit
set_option linter.unusedVariables false

set_option maxRecDepth 100000 in
set_option maxHeartbeats 4000000 in
theorem rcheck_any (v : Value) (n m : Nat) (f : Nat → Nat → Int) (x : ByteArray) (w : World) (hM : Mt w v n m f) (hf : ∀ i < n, ∀ j < m, 0 ≤ f i j ∧ f i j < n) (hn0 : 0 < n) (hn : n ≤ 16) (hm0 : 0 < m) (hm : m ≤ 8) (hx : wordErr (m : Int) x = 0) :
    Calls Tryd.prog 24 #[.agg #[.int .i64 (m : Int), v], .string x] w fun e w' => e = .returned (.int .i64 0) ∧ Below w.heap.size w w' := by
  have HC := hid (fun X h => rchk_any v n m f X h hf hn0 hn hm0 hm)
  have HW := hid (fun X => wcheck_any (m : Int) x X)
  rw [hx] at HW
  have HM := hid hM
  obtain ⟨ao, cap, rfl, hc1, hc2⟩ := hM.slice
  clear hM hf hx
  go_enter Tryd.func24, Tryd.ntmps24
  go_upto_region 1 with fail
  obtain ⟨w0, hw0⟩ : ∃ w0, w.alloc (.cells #[.int .i64 (m : Int), .slice ao n cap] 29) = w0 := ⟨_, rfl⟩
  have hb0 : Below w.heap.size w w0 := by rw [← hw0]; exact bel_alloc _ _
  have c0 : w0.cell? ⟨w.heap.size, 0, none⟩ = some (.int .i64 (m : Int)) := by rw [← hw0]; simp
  have c1 : w0.cell? ⟨w.heap.size, 1, none⟩ = some (.slice ao n cap) := by rw [← hw0]; simp
  rw [hw0]
  have HB0 := hid hb0
  clear hw0 hb0
  go_wp2_with (first
    | (go_at_call 35; refine (HC.out _ (HM.out.below HB0.out)).mono ?_; rintro e w1 ⟨rfl, hb1⟩; have c0 := keeps hb1 c0; have HB1 := hid (bel_step HB0.out hb1); clear hb1)
    | (go_at_call 5; refine (HW.out _).mono ?_; rintro e w2 ⟨rfl, hD2⟩))
  go_ret
  exact ⟨rfl, HB1.out.trans (hD2.below _ |>.mono HB1.out.size)⟩
set_option maxRecDepth 100000 in
set_option maxHeartbeats 4000000 in
theorem short_ex (v : Value) (f : Nat → Nat → Int) (w : World) (hM : Mt w v 2 2 f) (hf : Ex f) (hT : TzAt w) :
    Calls Tryd.prog 15 #[.agg #[.int .i64 2, v]] w fun e w' => e = .returned (.tuple #[.string ⟨#[48]⟩, .bool true, .int .i64 0]) ∧ Below w.heap.size w w' := by
  have HC := hid (fun X h => rchk_any v 2 2 f X h hf.low (by decide) (by decide) (by decide) (by decide))
  have HS := hid (fun X (hX : Below w.heap.size w X) => search_ex v f X (hM.below hX) hf (hT.later hX))
  have HAl := hid (fun X h => all_any 2 v 2 2 f X h (by decide))
  have HM := hid hM
  obtain ⟨ao, cap, rfl, hc1, hc2⟩ := hM.slice
  clear hM hf hT
  go_enter Tryd.func15, Tryd.ntmps15
  go_upto_region 1 with fail
  obtain ⟨w0, hw0⟩ : ∃ w0, w.alloc (.cells #[.int .i64 2, .slice ao 2 cap] 29) = w0 := ⟨_, rfl⟩
  have hb0 : Below w.heap.size w w0 := by rw [← hw0]; exact bel_alloc _ _
  have c0 : w0.cell? ⟨w.heap.size, 0, none⟩ = some (.int .i64 2) := by rw [← hw0]; simp
  have c1 : w0.cell? ⟨w.heap.size, 1, none⟩ = some (.slice ao 2 cap) := by rw [← hw0]; simp
  rw [hw0]
  have HB0 := hid hb0
  clear hw0 hb0
  go_upto_region 3 with (go_at_call 35; refine (HC.out _ (HM.out.below HB0.out)).mono ?_; rintro e w1 ⟨rfl, hb1⟩; have c0 := keeps hb1 c0; have c1 := keeps hb1 c1; have HB1 := hid (bel_step HB0.out hb1); clear hb1)
  go_region_held3 (fun w' => w'.cell? ⟨w.heap.size, 0, none⟩ = some (.int .i64 2) ∧ w'.cell? ⟨w.heap.size, 1, none⟩ = some (.slice ao 2 cap))
    (first | exact ⟨c0, c1⟩ | go_keep)
    (first
      | (go_at_call 27; refine (HAl.out _ (HM.out.below HB1.out.drew)).mono ?_; rintro e w2 ⟨rfl, hb2⟩; have c0 := keeps hb2 c0; have c1 := keeps hb2 c1; have HB2 := hid (show Below w1.heap.size w1 w2 from (below_drewN (Below.refl _ _) 1).trans hb2); clear hb2)
      | (go_at_call 36; refine (HS.out _ (HB1.out.trans (HB2.out.mono HB1.out.size))).mono ?_; rintro e w3 ⟨rfl, hb3⟩; have c0 := keeps hb3 c0; have c1 := keeps hb3 c1; have HB3 := hid (bel_step HB2.out hb3); clear hb3))
  all_goals
    go_wp2_with fail
    refine bodyPost_ret (v := .tuple #[.string ⟨#[48]⟩, .bool true, .int .i64 0]) ?_ rfl ⟨rfl, HB1.out.trans (HB3.out.mono HB1.out.size)⟩
    simp [results, Tryd.results15, go_sem]
end Go.Proofs.YtjcdddccnfiemaaDoor
