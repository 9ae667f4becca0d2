/-
  slices.Equal at ints and at strings: it says whether the two lists are equal.
  No condition.
-/
import Derived.Test.YtobbinppkjmhhaaDoorProg
import Derived.Test.YtobbinppkjmhhaaDoorLib
namespace Go.Proofs.YtobbinppkjmhhaaDoor
open Go.RowKit

/-- Equality of lists, element by element. -/
def eqb {α : Type} [DecidableEq α] : List α → List α → Bool
  | [], [] => true
  | a :: l, b :: r => decide (a = b) && eqb l r
  | _, _ => false
theorem eqb_iff {α : Type} [DecidableEq α] (l r : List α) : eqb l r = true ↔ l = r := by
  induction l generalizing r with
  | nil => cases r <;> simp [eqb]
  | cons a l ih => cases r with
    | nil => simp [eqb]
    | cons b r => simp [eqb, ih]
theorem eqb_eq {α : Type} [DecidableEq α] (l r : List α) : eqb l r = decide (l = r) := by
  rw [Bool.eq_iff_iff, eqb_iff, decide_eq_true_iff]
theorem eqb_len {α : Type} [DecidableEq α] (l r : List α) (h : l.length ≠ r.length) : eqb l r = false := by
  rw [eqb_eq, decide_eq_false_iff_not]
  rintro rfl
  exact h rfl
theorem toList_ne {x y : ByteArray} (h : ¬ x = y) : (x.toList == y.toList) = false := by
  rw [ByteArray.toList_eq, ByteArray.toList_eq, beq_eq_false_iff_ne]
  intro e
  exact h (by cases x; cases y; simp at e; rw [e])

set_option maxHeartbeats 400000 in
theorem equalInts_any (v1 v2 : Value) (l1 l2 : List Int) (w : World) (h1 : Sl 1 w v1 l1.length (ints l1)) (h2 : Sl 1 w v2 l2.length (ints l2)) :
    Calls Tryd.prog 10 #[v1, v2] w fun e w' => e = .returned (.bool (eqb l1 l2)) ∧ Dr w w' := by
  obtain ⟨ao, cap, rfl, _, hc1, hm1, hs1⟩ := h1
  obtain ⟨ao', cap', rfl, _, hc2, hm2, hs2⟩ := h2
  by_cases hlen : l1.length = l2.length
  · have HL := hid hlen
    have hne : ((l1.length : Int) != (l2.length : Int)) = false := by rw [hlen]; simp
    have hle : l1.length ≤ l2.length := by omega
    have hle' : l2.length ≤ l1.length := by omega
    clear hlen
    go_enter Tryd.func10, Tryd.ntmps10
    go_wp2
    go_loopw [13] (fun i wr => ∃ k : Nat, k ≤ l1.length ∧ i = .int .i64 k ∧ Dr w wr ∧ Hid (eqb l1 l2 = eqb (l1.drop k) (l2.drop k))) (fun i _ => l1.length - (intOf i).toNat)
    case atStart => exact ⟨0, Nat.zero_le _, rfl, Dr.refl _, hid rfl⟩
    case round =>
      obtain ⟨k, hk, rfl, ⟨n, rfl⟩, HE⟩ := hrel
      have HD := hid (Dr.drewN (Dr.refl w) n)
      by_cases hlt : k < l1.length
      · obtain ⟨b, o, rfl, hc⟩ := Sl.pos hs1 (by omega)
        obtain ⟨b', o', rfl, hc'⟩ := Sl.pos hs2 (by omega)
        obtain ⟨x, hx⟩ := some_of_lt hlt
        obtain ⟨y, hy⟩ := some_of_lt (l := l2) (k := k) (by omega)
        have c1 := hc k (.int .i64 x) (ints_get hx)
        have c2 := hc' k (.int .i64 y) (ints_get hy)
        have hk1 : (k : Int) < (l1.length : Int) := by omega
        have hk2 : (k : Int) < (l2.length : Int) := by omega
        have HX := hid (And.intro hx hy)
        clear hx hy hc hc' hs1 hs2
        by_cases hxy : x = y
        · have hb : (x != y) = false := by simp [hxy]
          have HXY := hid hxy
          clear hxy
          go_wp2
          go_quiet (fail)
          go_wp2
          go_roundw
          case rel =>
            refine ⟨k + 1, by omega, by go_num, (by first | exact ⟨_, rfl⟩ | exact HD.out.drewN _), ?_⟩
            refine hid (HE.out.trans ?_)
            rw [drop_cons HX.out.1, drop_cons HX.out.2]
            simp [eqb, HXY.out]
          case measure => simp [intOf]; omega
        · have hb : (x != y) = true := by simp [hxy]
          have HXY := hid hxy
          clear hxy
          go_wp2
          go_quiet (fail)
          go_wp2
          go_ret
          refine ⟨ret_bool ?_, (by first | exact ⟨_, rfl⟩ | exact HD.out.drewN _)⟩
          rw [HE.out, drop_cons HX.out.1, drop_cons HX.out.2]
          simp [eqb, HXY.out]
      · go_wp2
        go_ret
        refine ⟨ret_bool ?_, HD.out⟩
        rw [HE.out, drop_all (by omega), drop_all (by omega)]
        rfl
  · have hne : ((l1.length : Int) != (l2.length : Int)) = true := by simp; omega
    have HE := hid (eqb_len l1 l2 hlen)
    clear hlen
    go_enter Tryd.func10, Tryd.ntmps10
    go_wp2
    go_ret
    exact ⟨by rw [HE.out]; rfl, Dr.refl _⟩
end Go.Proofs.YtobbinppkjmhhaaDoor
