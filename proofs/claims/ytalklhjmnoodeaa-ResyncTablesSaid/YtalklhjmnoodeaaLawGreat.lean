/-
  groovelaw45.great: is a code or a word larger than the statements examine?
  No condition beyond the words lying in slices.
-/
import Derived.Test.YtalklhjmnoodeaaGreat
import Derived.Test.YtalklhjmnoodeaaAwake45
namespace Go.Proofs.Ytalklhjmnoodeaa
open Go.RowKit
set_option linter.unusedVariables false

def longB (x : ByteArray) : Bool := (decide (40 < x.size) && decide (x.size ≤ 65536)) || decide (65544 < x.size)
theorem long_any (x : ByteArray) (w : World) : Calls Try.prog 38 #[.string x, .int .i64 40] w fun e w' => e = .returned (.bool (longB x)) ∧ w = w' := by
  by_cases h1 : 40 < x.size
  · by_cases h2 : x.size ≤ 65536
    · have e : longB x = true := by simp [longB, h1, h2]
      rw [e]
      clear e
      have g1 : decide ((40 : Int) < (x.size : Int)) = true := by simp; omega
      have g2 : decide ((x.size : Int) ≤ 65536) = true := by simp; omega
      go_enter Try.func38, Try.ntmps38
      go_wp2
      go_ret
      exact ⟨rfl, rfl⟩
    · by_cases h3 : 65544 < x.size
      · have e : longB x = true := by simp [longB, h1, h3]
        rw [e]
        clear e
        have g1 : decide ((40 : Int) < (x.size : Int)) = true := by simp; omega
        have g2 : decide ((x.size : Int) ≤ 65536) = false := by simp; omega
        have g3 : decide ((65544 : Int) < (x.size : Int)) = true := by simp; omega
        go_enter Try.func38, Try.ntmps38
        go_wp2
        go_ret
        exact ⟨rfl, rfl⟩
      · have e : longB x = false := by simp [longB, h2, h3]
        rw [e]
        clear e
        have g1 : decide ((40 : Int) < (x.size : Int)) = true := by simp; omega
        have g2 : decide ((x.size : Int) ≤ 65536) = false := by simp; omega
        have g3 : decide ((65544 : Int) < (x.size : Int)) = false := by simp; omega
        go_enter Try.func38, Try.ntmps38
        go_wp2
        go_ret
        exact ⟨rfl, rfl⟩
  · have h3 : ¬ 65544 < x.size := by omega
    have e : longB x = false := by simp [longB, h1, h3]
    rw [e]
    clear e
    have g1 : decide ((40 : Int) < (x.size : Int)) = false := by simp; omega
    have g3 : decide ((65544 : Int) < (x.size : Int)) = false := by simp; omega
    go_enter Try.func38, Try.ntmps38
    go_wp2
    go_ret
    exact ⟨rfl, rfl⟩
theorem long1_any (x : ByteArray) (w : World) : Calls Try.prog 37 #[.string x] w fun e w' => e = .returned (.bool (longB x)) ∧ w = w' := by
  have HLo := hid (fun X => long_any x X)
  go_enter Try.func37, Try.ntmps37
  go_wp2_with (go_at_call 38; refine (HLo.out _).mono ?_; rintro e w1 ⟨rfl, rfl⟩)
  go_ret
  exact ⟨rfl, rfl⟩
theorem longs_any (v : Value) (xs : List ByteArray) (w : World) (hl : Sl 1 w v xs.length (strs xs)) :
    Calls Try.prog 36 #[v, .func (.func 37) #[] #[]] w fun e w' => e = .returned (.bool (xs.any longB)) ∧ Dr w w' := by
  obtain ⟨ao, cap, rfl, h0, h1, h2, h3⟩ := hl
  by_cases hn : xs.length = 0
  · rw [hn]
    refine (Try.slices_ContainsFunc_empty_f36 (α := Nat) ao cap _ w).mono ?_
    rintro e w' ⟨rfl, rfl⟩
    have : xs = [] := List.length_eq_zero_iff.1 hn
    subst this
    exact ⟨rfl, Dr.refl _⟩
  · rcases h3 with h3 | ⟨b, o, rfl, hc⟩
    · omega
    · have eg : ∀ args w, (callFunc 37 args).run Try.prog w = .ok (.enter 37 args) w := enters_of Try.func37 (by kernel_rfl) rfl
      have hp : PredAt Try.prog 37 #[] (fun x : ByteArray => Value.string x) longB w := by
        intro W x hB
        refine (long1_any x W).mono ?_
        rintro e w' ⟨rfl, rfl⟩; exact ⟨rfl, 0, rfl⟩
      refine (Try.slices_ContainsFunc_f36 _ _ 37 #[] eg b o xs.length cap xs w hp (by simp) (by omega) fun j hj => ?_).mono ?_
      · rw [hc j (.string xs[j]!) (by rw [List.getElem!_eq_getElem?_getD]; simp [strs, hj])]
      · rintro e w' ⟨rfl, k, rfl⟩
        refine ⟨ret_bool ?_, k, rfl⟩
        rw [List.take_of_length_le (by simp)]

set_option maxHeartbeats 2000000 in
theorem lgreat_any (q : Int) (v u : Value) (ws xs : List ByteArray) (w : World) (hl : Sl 1 w v ws.length (strs ws)) (hx : Sl 1 w u xs.length (strs xs)) :
    Calls Try.prog 11 #[.agg #[.int .i64 q, v], u] w fun e w' => e = .returned (.bool (greatB ws || xs.any longB)) ∧ Below w.heap.size w w' := by
  have HG := hid (fun X h => great_any q v ws X h)
  have HC := hid (fun X h => longs_any u xs X h)
  have HL := hid hl
  have HX := hid hx
  obtain ⟨ao, cap, rfl, _, hl1, hl2, hl3⟩ := hl
  obtain ⟨ao2, cap2, rfl, _, hx1, hx2, hx3⟩ := hx
  clear hl3 hx3
  go_enter Try.func11, Try.ntmps11
  go_upto_region 1 with fail
  obtain ⟨w0, hw0⟩ : ∃ w0, w.alloc (.cells #[.int .i64 q, .slice ao ws.length cap] 24) = w0 := ⟨_, rfl⟩
  obtain ⟨hb0, c0, c1⟩ := boxed hw0
  rw [hw0]
  have HB0 := hid hb0
  clear hw0 hb0
  cases hG : greatB ws
  · have HQ := hid hG
    rw [hG] at HG
    clear hG
    go_wp2_with (first
      | (go_at_call 35; refine (HG.out _ (HL.out.below HB0.out)).mono ?_; rintro e w1 ⟨rfl, hb1⟩; have HB1 := hid (bel_step HB0.out hb1))
      | (go_at_call 36; refine (HC.out _ (HX.out.below HB1.out)).mono ?_; rintro e w2 ⟨rfl, hD⟩))
    go_ret
    exact ⟨by rw [HQ.out, Bool.false_or]; rfl, bel_step HB1.out (hD.below _)⟩
  · have HQ := hid hG
    rw [hG] at HG
    clear hG
    go_wp2_with (first
      | (go_at_call 35; refine (HG.out _ (HL.out.below HB0.out)).mono ?_; rintro e w1 ⟨rfl, hb1⟩; have HB1 := hid (bel_step HB0.out hb1)))
    go_ret
    exact ⟨by rw [HQ.out, Bool.true_or]; rfl, HB1.out⟩
end Go.Proofs.Ytalklhjmnoodeaa
