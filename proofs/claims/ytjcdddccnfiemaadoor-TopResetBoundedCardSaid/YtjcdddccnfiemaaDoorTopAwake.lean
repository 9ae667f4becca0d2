/-
  groovetop.top45Awake: the example holds.
  What TrailingZeros yields is a hypothesis.
-/
import Derived.Test.YtjcdddccnfiemaaDoorAutoM
import Derived.Test.YtjcdddccnfiemaaDoorShort
import Derived.KernelRfl
namespace Go.Proofs.YtjcdddccnfiemaaDoor
open Go.RowKit Go.Deep
set_option linter.unusedVariables false

def aws1 : List ByteArray := [⟨#[48]⟩, ⟨#[49, 48]⟩, ⟨#[49, 49]⟩]
theorem aw1 : aErr 2 aws1 = 0 := by kernel_rfl
theorem aw2 : sizeW aws1 = 2 := by kernel_rfl
theorem aw3 : Ex (nxI aws1) := ⟨by kernel_rfl, by kernel_rfl, by kernel_rfl, by kernel_rfl⟩
theorem lit_words (w : World) (l : List ByteArray) (c : Array Value) (n : Nat) (hn : l.length = n) (hc : c.toList = strs l) (hm : l.length ≤ 1000) : Sl 1 (w.alloc (.cells c 9)) (.slice (some ⟨w.heap.size, 0, none⟩) n n) l.length (strs l) := by
  subst hn
  refine ⟨_, _, rfl, by rw [strs_len]; simp, Nat.le_refl _, by omega, .inr ⟨w.heap.size, 0, rfl, fun j x hj => ?_⟩⟩
  rw [← hc] at hj
  rw [Nat.zero_add, cell_of_row _ w.heap.size j _ _ _ (heap_alloc_new w _)]
  simpa using hj
theorem au_ex (v : Value) (w : World) (hl : Sl 1 w v aws1.length (strs aws1)) :
    Calls Tryd.prog 11 #[.agg #[.int .i64 2, v]] w fun e w' => ∃ v', e = .returned (.tuple #[.agg #[.int .i64 2, v'], .int .i64 0]) ∧ Mt w' v' 2 2 (nxI aws1) ∧ Below w.heap.size w w' := by
  refine (autom_any 2 v aws1 w hl).mono ?_
  rintro e w' (⟨hne, _⟩ | ⟨_, v', he, ⟨g, hr⟩, hb⟩)
  · exact absurd aw1 hne
  · exact ⟨v', he, by have hm := hr.mt (by decide); rw [aw2] at hm; exact hm, hb⟩
set_option maxRecDepth 100000 in
set_option maxHeartbeats 4000000 in
theorem awake_any (w : World) (hT : TzAt w) :
    Calls Tryd.prog 6 #[] w fun e w' => e = .returned (.bool true) ∧ Below w.heap.size w w' := by
  have HAu := hid au_ex
  have HSh := hid (fun v X (hX : Below w.heap.size w X) h => short_ex v (nxI aws1) X h aw3 (hT.later hX))
  go_enter Tryd.func6, Tryd.ntmps6
  have hL := lit_words w aws1 #[.string ⟨#[48]⟩, .string ⟨#[49, 48]⟩, .string ⟨#[49, 49]⟩] 3 rfl rfl (by decide)
  have HL := hid hL
  have HB0 := hid (bel_alloc w (.cells #[.string ⟨#[48]⟩, .string ⟨#[49, 48]⟩, .string ⟨#[49, 49]⟩] 9))
  clear hL hT
  go_upto_region 2 with (go_at_call 11; refine (HAu.out _ _ HL.out).mono ?_; rintro e w1 ⟨v', rfl, hM, hb1⟩; have HB1 := hid (HB0.out.trans (hb1.mono HB0.out.size)); have HM := hid hM; obtain ⟨ao, cap, rfl, hc1, hc2⟩ := hM.slice; clear hM hb1)
  obtain ⟨w2, hw2⟩ : ∃ w2, w1.alloc (.cells #[.int .i64 2, .slice ao 2 cap] 29) = w2 := ⟨_, rfl⟩
  have hb2 : Below w1.heap.size w1 w2 := by rw [← hw2]; exact bel_alloc _ _
  have c0 : w2.cell? ⟨w1.heap.size, 0, none⟩ = some (.int .i64 2) := by rw [← hw2]; simp
  have c1 : w2.cell? ⟨w1.heap.size, 1, none⟩ = some (.slice ao 2 cap) := by rw [← hw2]; simp
  rw [hw2]
  have HB2 := hid (HB1.out.trans (hb2.mono HB1.out.size))
  have HM2 := hid (HM.out.below hb2)
  clear hw2 hb2
  go_wp2_with (go_at_call 15; refine (HSh.out _ _ HB2.out HM2.out).mono ?_; rintro e w3 ⟨rfl, hb3⟩)
  go_ret
  exact ⟨rfl, HB2.out.trans (hb3.mono HB2.out.size)⟩
end Go.Proofs.YtjcdddccnfiemaaDoor
