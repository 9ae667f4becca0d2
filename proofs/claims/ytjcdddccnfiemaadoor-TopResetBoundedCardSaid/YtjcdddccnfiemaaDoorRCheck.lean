/-
  reset.Check at an automaton of at most 8 letters and 16 states.
  No condition beyond the rows lying in a slice.
-/
import Derived.Test.YtjcdddccnfiemaaDoorAid
import Derived.Test.YtjcdddccnfiemaaDoorShelf
namespace Go.Proofs.YtjcdddccnfiemaaDoor
open Go.RowKit
set_option linter.unusedVariables false

/-- Is a number out of range? -/
def outB (n : Nat) (x : Int) : Bool := decide (x < 0) || decide ((n : Int) ≤ x)
theorem out_any (b n cap : Nat) (ao : Option Addr) (x : Int) (w : World) (c1 : w.cell? ⟨b, 1, none⟩ = some (.slice ao n cap)) :
    Calls Tryd.prog 57 #[.int .i64 x, .pointer (some ⟨b, 0, none⟩)] w fun e w' => e = .returned (.bool (outB n x)) ∧ w = w' := by
  by_cases h : x < 0
  · go_enter Tryd.func57, Tryd.ntmps57
    go_wp2
    go_ret
    exact ⟨ret_bool (by simp [outB, h]), rfl⟩
  · go_enter Tryd.func57, Tryd.ntmps57
    go_wp2
    go_ret
    exact ⟨ret_bool (by simp [outB]; omega), rfl⟩
theorem outs_any (b n cap m : Nat) (ao : Option Addr) (v : Value) (g : Nat → Int) (w : World) (c1 : w.cell? ⟨b, 1, none⟩ = some (.slice ao n cap)) (hl : Sl 1 w v m (rowV m g)) (hg : ∀ j < m, 0 ≤ g j ∧ g j < n) :
    Calls Tryd.prog 56 #[v, .func (.func 57) #[] #[.pointer (some ⟨b, 0, none⟩)]] w fun e w' => e = .returned (.bool false) ∧ Dr w w' := by
  obtain ⟨ar, cr, rfl, _, h1, h2, h3⟩ := hl
  by_cases h0 : m = 0
  · subst h0
    refine (Tryd.slices_ContainsFunc_empty_f56 (α := Nat) ar cr _ w).mono ?_
    rintro e w' ⟨rfl, rfl⟩
    exact ⟨rfl, Dr.refl _⟩
  · rcases h3 with h3 | ⟨br, o, rfl, hc⟩
    · omega
    · have eg : ∀ args w, (callFunc 57 args).run Tryd.prog w = .ok (.enter 57 args) w := enters_of Tryd.func57 (by kernel_rfl) rfl
      have hp : PredAt Tryd.prog 57 #[.pointer (some ⟨b, 0, none⟩)] (fun x : Int => .int .i64 x) (outB n) w := by
        intro W x hB
        refine (out_any b n cap ao x W (keeps hB c1)).mono ?_
        rintro e w' ⟨rfl, rfl⟩; exact ⟨rfl, 0, rfl⟩
      refine (Tryd.slices_ContainsFunc_f56 _ _ 57 _ eg br o m cr ((List.range m).map g) w hp (by simp) (by omega) fun j hj => ?_).mono ?_
      · have hj' : j < m := by simpa using hj
        rw [hc j _ (rowV_get g hj'), List.getElem!_eq_getElem?_getD]
        simp [hj']
      · rintro e w' ⟨rfl, k, rfl⟩
        refine ⟨ret_bool ?_, k, rfl⟩
        rw [List.take_of_length_le (by simp), List.any_eq_false]
        intro x hx
        obtain ⟨j, hj, rfl⟩ := List.mem_map.1 hx
        have := hg j (List.mem_range.1 hj)
        simp only [outB, Bool.or_eq_true, decide_eq_true_eq]
        omega
set_option maxRecDepth 100000 in
set_option maxHeartbeats 4000000 in
theorem rchk_any (v : Value) (n m : Nat) (f : Nat → Nat → Int) (w : World) (hM : Mt w v n m f) (hf : ∀ i < n, ∀ j < m, 0 ≤ f i j ∧ f i j < n) (hn0 : 0 < n) (hn : n ≤ 16) (hm0 : 0 < m) (hm : m ≤ 8) :
    Calls Tryd.prog 35 #[.agg #[.int .i64 (m : Int), v]] w fun e w' => e = .returned (.int .i64 0) ∧ Below w.heap.size w w' := by
  have HM := hid hM
  have HF := hid hf
  obtain ⟨ao, cap, rfl, hc1, hc2⟩ := hM.slice
  clear hM hf
  have hne : ((n : Int) == 0) = false := by rw [beq_eq_false_iff_ne]; omega
  go_enter Tryd.func35, Tryd.ntmps35
  go_upto_region 1 with fail
  obtain ⟨w0, hw0⟩ : ∃ w0, w.alloc (.cells #[.int .i64 (m : Int), .slice ao n cap] 29) = w0 := ⟨_, rfl⟩
  have hb0 : Below w.heap.size w w0 := by rw [← hw0]; exact bel_alloc _ _
  have c0 : w0.cell? ⟨w.heap.size, 0, none⟩ = some (.int .i64 (m : Int)) := by rw [← hw0]; simp
  have c1 : w0.cell? ⟨w.heap.size, 1, none⟩ = some (.slice ao n cap) := by rw [← hw0]; simp
  rw [hw0]
  have HB0 := hid hb0
  clear hw0 hb0
  go_wp2_with fail
  clear hne
  have HK := hid (And.intro c0 c1)
  clear c0 c1
  go_loopw [27] (fun i wr => ∃ k : Nat, k ≤ n ∧ i = .int .i64 (k : Int) ∧ Dr w0 wr) (fun i _ => n - (intOf i).toNat)
  case atStart => exact ⟨0, Nat.zero_le _, rfl, Dr.refl _⟩
  case round =>
    obtain ⟨k, hk, rfl, hD⟩ := hrel
    have HD := hid hD
    have hb := hD.below w0.heap.size
    have c0 := keeps hb HK.out.1
    have c1 := keeps hb HK.out.2
    have HB := hid (HB0.out.trans (hb.mono HB0.out.size))
    clear hb hD
    by_cases hlt : k < n
    · obtain ⟨b, o, r, c, rfl, n1, hS⟩ := (HM.out.below HB.out).row hlt
      have HO := hid (outs_any w.heap.size n cap m (some ⟨b, o, none⟩) (.slice r m c) (f k) wr c1 hS (HF.out k hlt))
      clear hS c1
      go_wp2_with (go_at_call 56; refine HO.out.mono ?_; rintro e w1 ⟨rfl, hD1⟩)
      go_roundw
      case rel => exact ⟨k + 1, by omega, by go_num, HD.out.trans hD1⟩
      case measure => simp [intOf]; omega
    · obtain rfl : k = n := by omega
      go_wp2_with fail
      go_ret
      exact ⟨rfl, HB.out⟩
end Go.Proofs.YtjcdddccnfiemaaDoor
