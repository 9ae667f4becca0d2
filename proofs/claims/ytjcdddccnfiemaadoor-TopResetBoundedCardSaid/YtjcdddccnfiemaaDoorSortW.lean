/-
  slices.SortFunc at a list of different words, by parser.build's comparison: the words in order.
  The words are different.
-/
import Derived.Test.YtjcdddccnfiemaaDoorCodeCk
import Derived.Sort.Grow
namespace Go.Proofs.YtjcdddccnfiemaaDoor
open Go.RowKit Go.Sort
set_option linter.unusedVariables false

/-- The world has grown behind, and drawn. -/
def Gr (w w' : World) : Prop := ∃ q os, w' = grow (w.drewN q) os
theorem Gr.refl (w : World) : Gr w w := ⟨0, #[], by rw [grow_empty]; rfl⟩
theorem Gr.trans {a b c : World} (h : Gr a b) (k : Gr b c) : Gr a c := by
  obtain ⟨q, os, rfl⟩ := h
  obtain ⟨q', os', rfl⟩ := k
  exact ⟨q + q', os ++ os', by show grow (grow ((a.drewN q).drewN q') os) os' = _; rw [grow_grow, drewN_drewN]⟩
theorem Gr.drewN {a b : World} (h : Gr a b) (n : Nat) : Gr a (b.drewN n) := h.trans ⟨n, #[], by rw [grow_empty]⟩
theorem Gr.drew {a b : World} (h : Gr a b) : Gr a b.drew := h.trans ⟨1, #[], by rw [grow_empty]; rfl⟩
theorem Gr.alloc {a b : World} (h : Gr a b) (o : Obj) : Gr a (b.alloc o) := h.trans ⟨0, #[o], by rw [alloc_eq_grow]; rfl⟩
theorem Gr.below {a b : World} (h : Gr a b) : Below a.heap.size a b := by
  obtain ⟨q, os, rfl⟩ := h
  refine ⟨rfl, rfl, rfl, ?_, fun k hk => ?_⟩
  · rw [size_grow]; exact Nat.le_add_right _ _
  · rw [heap_grow_old _ _ (by exact hk)]; rfl


theorem bytes_eq_self (x : ByteArray) : (x.toList == x.toList) = true := by simp
set_option maxHeartbeats 400000 in
theorem isNaNS_any (a : ByteArray) (w : World) : Calls Tryd.prog 70 #[.string a] w fun e w' => e = .returned (.bool false) ∧ w = w' := by
  go_enter Tryd.func70, Tryd.ntmps70
  go_wp2
  go_ret
  exact ⟨by simp, rfl⟩

set_option maxHeartbeats 400000 in
theorem cmpS_any (a b : ByteArray) (w : World) : Calls Tryd.prog 53 #[.string a, .string b] w fun e w' => e = .returned (.int .i64 (Lib.compareBytes a.data.toList b.data.toList)) ∧ w = w' := by
  have hl : Op.bytesLess a.toList b.toList = decide (Lib.compareBytes a.data.toList b.data.toList < 0) := by rw [Lib.toList_data, Lib.toList_data, cb_less]
  have he : (a.toList == b.toList) = decide (Lib.compareBytes a.data.toList b.data.toList = 0) := by
    rw [Lib.toList_data, Lib.toList_data, Bool.eq_iff_iff, beq_iff_eq, decide_eq_true_iff]
    exact ⟨fun h => by rw [h, cb_refl], cb_eq⟩
  rcases cb_range a.data.toList b.data.toList with h | h | h
  · rw [h] at hl he ⊢
    clear h
    have hl : Op.bytesLess a.toList b.toList = true := by rw [hl]; rfl
    go_enter Tryd.func53, Tryd.ntmps53
    go_wp2_with (go_at_call 70; refine (isNaNS_any _ _).mono ?_; rintro e w' ⟨rfl, rfl⟩)
    go_ret
    exact ⟨rfl, rfl⟩
  · rw [h] at hl he ⊢
    clear h
    have hl : Op.bytesLess a.toList b.toList = false := by rw [hl]; rfl
    have he : (a.toList == b.toList) = true := by rw [he]; rfl
    go_enter Tryd.func53, Tryd.ntmps53
    go_wp2_with (go_at_call 70; refine (isNaNS_any _ _).mono ?_; rintro e w' ⟨rfl, rfl⟩)
    go_ret
    exact ⟨rfl, rfl⟩
  · rw [h] at hl he ⊢
    clear h
    have hl : Op.bytesLess a.toList b.toList = false := by rw [hl]; rfl
    have he : (a.toList == b.toList) = false := by rw [he]; rfl
    go_enter Tryd.func53, Tryd.ntmps53
    go_wp2_with (go_at_call 70; refine (isNaNS_any _ _).mono ?_; rintro e w' ⟨rfl, rfl⟩)
    go_ret
    exact ⟨rfl, rfl⟩

set_option maxHeartbeats 1000000 in
theorem pless_any (a b : ByteArray) (w : World) :
    Calls Tryd.prog 50 #[.string a, .string b] w fun e w' => e = .returned (.int .i64 (cmpW a b)) ∧ Gr w w' := by
  have HE := hid (cmpW_or a b)
  have HG := hid (Gr.refl w)
  go_enter Tryd.func50, Tryd.ntmps50
  go_wp2_with (first
    | (go_at_call 52; refine (Tryd.cmp_Compare_int _ _ _).mono ?_; rintro e w' ⟨rfl, rfl⟩)
    | (go_at_call 53; refine (cmpS_any _ _ _).mono ?_; rintro e w' ⟨rfl, rfl⟩)
    | (go_at_call 51; refine (or2 (Lib.compareInt a.size b.size) (Lib.compareBytes a.data.toList b.data.toList) _ _ ?_ ?_).mono ?_; (simp [go_sem]); (simp [go_sem]); rintro e w3 ⟨rfl, rfl⟩))
  go_ret
  exact ⟨ret_int HE.out, HG.out.alloc _⟩
end Go.Proofs.YtjcdddccnfiemaaDoor
