/-
  The law's word for a program that it does not look at.
  No condition beyond the code and the outputs lying in slices.
-/
import Derived.Test.YtgfeknjhkciooaaDoorPrReduce
import Derived.Test.YtgfeknjhkciooaaDoorPrRef
namespace Go.Proofs.YtgfeknjhkciooaaDoor
open Go.RowKit Go.Deep
set_option linter.unusedVariables false

/-- Too great. -/
def greatB (c : List Ins) (o : List Int) : Bool := decide (30 < (c.length : Int)) || decide (30 < (o.length : Int))
set_option maxHeartbeats 2000000 in
theorem pgreat_any (n : Int) (vc vo : Value) (c : List Ins) (o : List Int) (w : World) (hc : Sl 3 w vc c.length (icells c)) (ho : Sl 1 w vo o.length (ints o)) :
    Calls Tryd.prog 10 #[.agg #[.int .i64 n, vc, vo]] w fun e w' => e = .returned (.bool (greatB c o)) ∧ Below w.heap.size w w' := by
  obtain ⟨ac, cc, rfl, _, hc1, hc2, _⟩ := hc
  obtain ⟨ao, co, rfl, _, ho1, ho2, _⟩ := ho
  by_cases h1 : 30 < (c.length : Int)
  · have e : greatB c o = true := by simp [greatB]; omega
    rw [e]
    have h1' : decide (30 < (c.length : Int)) = true := by simpa using h1
    go_enter Tryd.func10, Tryd.ntmps10
    go_wp2
    go_ret
    exact ⟨rfl, bel_alloc _ _⟩
  · have h1' : decide (30 < (c.length : Int)) = false := by simpa using h1
    have HE := hid (show greatB c o = decide (30 < (o.length : Int)) by rw [greatB, h1']; rfl)
    go_enter Tryd.func10, Tryd.ntmps10
    go_wp2
    go_ret
    exact ⟨ret_bool (by rw [HE.out]), bel_alloc _ _⟩
/-- The law looks at it. -/
def fineB (n : Int) (c : List Ins) (o : List Int) : Bool := !greatB c o && decide (progErr n c o = 0)
set_option maxHeartbeats 2000000 in
theorem fine_any (n : Int) (vc vo : Value) (c : List Ins) (o : List Int) (w : World) (hc : Sl 3 w vc c.length (icells c)) (ho : Sl 1 w vo o.length (ints o)) :
    Calls Tryd.prog 19 #[.agg #[.int .i64 n, vc, vo]] w fun e w' => e = .returned (.bool (fineB n c o)) ∧ Below w.heap.size w w' := by
  have HC := hid hc
  have HO := hid ho
  have HGr := hid (fun X h1 h2 => pgreat_any n vc vo c o X h1 h2)
  have HCk := hid (fun X h1 h2 => rcheck53_any n vc vo c o X h1 h2)
  obtain ⟨ac, cc, rfl, _⟩ := hc
  obtain ⟨ao, co, rfl, _⟩ := ho
  have HF := hid (show fineB n c o = (!greatB c o && decide (progErr n c o = 0)) from rfl)
  generalize progErr n c o = E at *
  cases hG : greatB c o
  · rw [hG] at HGr HF
    clear hG
    go_enter Tryd.func19, Tryd.ntmps19
    go_upto_region 1 with fail
    obtain ⟨w0, hw0⟩ : ∃ w0, w.alloc (.cells #[.int .i64 n, .slice ac c.length cc, .slice ao o.length co] 25) = w0 := ⟨_, rfl⟩
    obtain ⟨hb0, c0, c1, c2⟩ := boxP hw0
    rw [hw0]
    have HB0 := hid hb0
    clear hw0 hb0
    go_wp2_with (first
      | (go_at_call 10; refine (HGr.out _ (HC.out.below HB0.out) (HO.out.below HB0.out)).mono ?_; rintro e w1 ⟨rfl, hb1⟩; have HB1 := hid (bel_step HB0.out hb1); have c0 := keeps hb1 c0; have c1 := keeps hb1 c1; have c2 := keeps hb1 c2)
      | (go_at_call 17; refine (HCk.out _ (HC.out.below HB1.out) (HO.out.below HB1.out)).mono ?_; rintro e w2 ⟨rfl, hb2⟩))
    go_ret
    exact ⟨ret_bool (by rw [HF.out, Bool.not_false, Bool.true_and]; by_cases h : E = 0 <;> simp [h]), bel_step HB1.out hb2⟩
  · rw [hG] at HGr HF
    clear hG
    go_enter Tryd.func19, Tryd.ntmps19
    go_upto_region 1 with fail
    obtain ⟨w0, hw0⟩ : ∃ w0, w.alloc (.cells #[.int .i64 n, .slice ac c.length cc, .slice ao o.length co] 25) = w0 := ⟨_, rfl⟩
    obtain ⟨hb0, c0, c1, c2⟩ := boxP hw0
    rw [hw0]
    have HB0 := hid hb0
    clear hw0 hb0
    go_wp2_with (go_at_call 10; refine (HGr.out _ (HC.out.below HB0.out) (HO.out.below HB0.out)).mono ?_; rintro e w1 ⟨rfl, hb1⟩)
    go_ret
    exact ⟨ret_bool (by rw [HF.out]; simp), bel_step HB0.out hb1⟩
end Go.Proofs.YtgfeknjhkciooaaDoor
