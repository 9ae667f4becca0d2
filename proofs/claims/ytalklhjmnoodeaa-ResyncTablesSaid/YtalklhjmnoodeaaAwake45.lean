/-
  groovelaw45.awake: the examples of the chapter hold.
  No condition.
-/
import Derived.Test.YtalklhjmnoodeaaDelay
import Derived.Test.YtalklhjmnoodeaaSyncW
import Derived.KernelRfl
namespace Go.Proofs.Ytalklhjmnoodeaa
open Go.RowKit Go.Deep
set_option linter.unusedVariables false

def aws1 : List ByteArray := [⟨#[48]⟩, ⟨#[49, 48]⟩, ⟨#[49, 49]⟩]
def aws2 : List ByteArray := [⟨#[49]⟩, ⟨#[48, 48]⟩, ⟨#[48, 49, 48]⟩, ⟨#[48, 49, 49]⟩]
def ax1 : ByteArray := ⟨#[48, 49, 49, 48]⟩
def ax2 : ByteArray := ⟨#[49, 49, 49]⟩
theorem aw1 : dErr 2 aws1 ax1 0 1 = 0 := by kernel_rfl
theorem aw2 : delayR aws1 ax1 0 1 = some 3 := by kernel_rfl
theorem aw3 : dErr 2 aws2 ax2 0 0 = 0 := by kernel_rfl
theorem aw4 : delayR aws2 ax2 0 0 = some 2 := by kernel_rfl
theorem aw5 : sErr 2 aws1 = 0 := by kernel_rfl
theorem aw6 : syncN (nxN aws1) (sizeW aws1) 2 = some [0] := by kernel_rfl

theorem awD1 (v : Value) (w : World) (hl : Sl 1 w v aws1.length (strs aws1)) :
    Calls Try.prog 13 #[.agg #[.int .i64 2, v], .string ⟨#[48, 49, 49, 48]⟩, .int .i64 0, .int .i64 1] w fun e w' => e = .returned (.tuple #[.int .i64 3, .bool true, .int .i64 0]) ∧ Below w.heap.size w w' := by
  refine (delay_any 2 v aws1 ax1 0 1 w hl).mono ?_
  rintro e w' ⟨hb, ⟨hne, _⟩ | ⟨_, rfl⟩⟩
  · exact absurd aw1 hne
  · refine ⟨?_, hb⟩
    rw [show (0 : Int).toNat = 0 from rfl, show (1 : Int).toNat = 1 from rfl, aw2]
    rfl
theorem awD2 (v : Value) (w : World) (hl : Sl 1 w v aws2.length (strs aws2)) :
    Calls Try.prog 13 #[.agg #[.int .i64 2, v], .string ⟨#[49, 49, 49]⟩, .int .i64 0, .int .i64 0] w fun e w' => e = .returned (.tuple #[.int .i64 2, .bool true, .int .i64 0]) ∧ Below w.heap.size w w' := by
  refine (delay_any 2 v aws2 ax2 0 0 w hl).mono ?_
  rintro e w' ⟨hb, ⟨hne, _⟩ | ⟨_, rfl⟩⟩
  · exact absurd aw3 hne
  · refine ⟨?_, hb⟩
    rw [show (0 : Int).toNat = 0 from rfl, aw4]
    rfl
theorem awS (v : Value) (w : World) (hl : Sl 1 w v aws1.length (strs aws1)) :
    Calls Try.prog 25 #[.agg #[.int .i64 2, v]] w fun e w' => e = .returned (.tuple #[.string ⟨#[48]⟩, .bool true, .int .i64 0]) ∧ Below w.heap.size w w' := by
  refine (sync_any 2 v aws1 w hl).mono ?_
  rintro e w' ⟨hb, ⟨hne, _⟩ | ⟨_, rfl⟩⟩
  · exact absurd aw5 hne
  · refine ⟨?_, hb⟩
    rw [show (2 : Int).toNat = 2 from rfl, aw6]
    rfl
theorem lit_words (w : World) (l : List ByteArray) (c : Array Value) (n : Nat) (hn : l.length = n) (hc : c.toList = strs l) (hm : l.length ≤ 1000) : Sl 1 (w.alloc (.cells c 9)) (.slice (some ⟨w.heap.size, 0, none⟩) n n) l.length (strs l) := by
  subst hn
  refine ⟨_, _, rfl, by rw [strs_len]; simp, Nat.le_refl _, by omega, .inr ⟨w.heap.size, 0, rfl, fun j x hj => ?_⟩⟩
  rw [← hc] at hj
  rw [Nat.zero_add, cell_of_row _ w.heap.size j _ _ _ (heap_alloc_new w _)]
  simpa using hj

theorem aw_lay {w w0 : World} (h : ((((w.alloc (.cells #[.string ⟨#[48]⟩, .string ⟨#[49, 48]⟩, .string ⟨#[49, 49]⟩] 9)).alloc (.cells #[.int .i64 2, .slice (some ⟨w.heap.size, 0, none⟩) 3 3] 24)).alloc (.cells #[.string ⟨#[49]⟩, .string ⟨#[48, 48]⟩, .string ⟨#[48, 49, 48]⟩, .string ⟨#[48, 49, 49]⟩] 9)).alloc (.cells #[.int .i64 2, .slice (some ⟨w.heap.size + 1 + 1, 0, none⟩) 4 4] 24)) = w0) :
    Below w.heap.size w w0 ∧ (w0.cell? ⟨w.heap.size + 1, 0, none⟩ = some (.int .i64 2) ∧ w0.cell? ⟨w.heap.size + 1, 1, none⟩ = some (.slice (some ⟨w.heap.size, 0, none⟩) 3 3) ∧ w0.cell? ⟨w.heap.size + 1 + 1 + 1, 0, none⟩ = some (.int .i64 2) ∧ w0.cell? ⟨w.heap.size + 1 + 1 + 1, 1, none⟩ = some (.slice (some ⟨w.heap.size + 1 + 1, 0, none⟩) 4 4)) ∧
    Sl 1 w0 (.slice (some ⟨w.heap.size, 0, none⟩) 3 3) aws1.length (strs aws1) ∧ Sl 1 w0 (.slice (some ⟨w.heap.size + 1 + 1, 0, none⟩) 4 4) aws2.length (strs aws2) := by
  have h1 := lit_words w aws1 #[.string ⟨#[48]⟩, .string ⟨#[49, 48]⟩, .string ⟨#[49, 49]⟩] 3 rfl rfl (by decide)
  have h2 := lit_words ((w.alloc (.cells #[.string ⟨#[48]⟩, .string ⟨#[49, 48]⟩, .string ⟨#[49, 49]⟩] 9)).alloc (.cells #[.int .i64 2, .slice (some ⟨w.heap.size, 0, none⟩) 3 3] 24)) aws2 #[.string ⟨#[49]⟩, .string ⟨#[48, 48]⟩, .string ⟨#[48, 49, 48]⟩, .string ⟨#[48, 49, 49]⟩] 4 rfl rfl (by decide)
  rw [World.size_alloc, World.size_alloc] at h2
  subst h
  refine ⟨(((bel_alloc _ _).alloc (by simp) _).alloc (by simp; omega) _).alloc (by simp; omega) _, ⟨by simp [go_sem], by simp [go_sem], by simp [go_sem], by simp [go_sem]⟩, h1.below (((bel_alloc _ _).alloc (by simp) _).alloc (by simp) _), h2.below (bel_alloc _ _)⟩

set_option maxRecDepth 100000 in
set_option maxHeartbeats 4000000 in
theorem awake_any (w : World) :
    Calls Try.prog 12 #[] w fun e w' => e = .returned (.bool true) ∧ Below w.heap.size w w' := by
  have hmax : ∀ w', (Builtin.max_ #[27, 27, 27] 27 #[.int .i64 0, .int .i64 0, .int .i64 0]).run Try.prog w' = .ok (.int .i64 0) w' := fun _ => rfl
  go_enter Try.func12, Try.ntmps12
  go_upto_region 3 with fail
  obtain ⟨w0, hw0⟩ : ∃ w0, ((((w.alloc (.cells #[.string ⟨#[48]⟩, .string ⟨#[49, 48]⟩, .string ⟨#[49, 49]⟩] 9)).alloc (.cells #[.int .i64 2, .slice (some ⟨w.heap.size, 0, none⟩) 3 3] 24)).alloc (.cells #[.string ⟨#[49]⟩, .string ⟨#[48, 48]⟩, .string ⟨#[48, 49, 48]⟩, .string ⟨#[48, 49, 49]⟩] 9)).alloc (.cells #[.int .i64 2, .slice (some ⟨w.heap.size + 1 + 1, 0, none⟩) 4 4] 24)) = w0 := ⟨_, rfl⟩
  obtain ⟨hb0, ⟨k0, k1, k2, k3⟩, hS1, hS2⟩ := aw_lay hw0
  rw [hw0]
  have HB0 := hid hb0
  have HS := hid (And.intro hS1 hS2)
  clear hw0 hb0 hS1 hS2
  go_upto_region 4 with (go_at_call 13; refine (awD1 _ _ HS.out.1).mono ?_; rintro e w1 ⟨rfl, hb1⟩; have HB1 := hid (bel_step (Below.refl w0.heap.size w0) hb1); have k0 := keeps hb1 k0; have k1 := keeps hb1 k1; have k2 := keeps hb1 k2; have k3 := keeps hb1 k3)
  go_upto_region 5 with (go_at_call 13; refine (awD2 _ _ (HS.out.2.below HB1.out)).mono ?_; rintro e w2 ⟨rfl, hb2⟩; have HB2 := hid (bel_step HB1.out hb2); have k0 := keeps hb2 k0; have k1 := keeps hb2 k1)
  go_wp2_with (go_at_call 25; refine (awS _ _ (HS.out.1.below HB2.out)).mono ?_; rintro e w3 ⟨rfl, hb3⟩; have HB3 := hid (bel_step HB2.out hb3))
  go_ret
  exact ⟨rfl, HB0.out.trans (HB3.out.mono HB0.out.size)⟩
end Go.Proofs.Ytalklhjmnoodeaa
