/-
  runcode.first at a row of words with probabilities: the first one of the least ones.
-/
import Derived.Test.YtieahckbbohfgaaGreatDoorTunOrd
namespace Go.Proofs.YtieahckbbohfgaaGreatDoor
open Go.RowKit Go.Deep
set_option linter.unusedVariables false

def bestK (l : List Lk) : Nat → Nat
  | 0 => 0
  | k + 1 => if lkOrd (l.getD k default) (l.getD (bestK l k) default) < 0 then k else bestK l k
theorem bestK_lt (l : List Lk) (k : Nat) (h : k < l.length) : bestK l k < l.length ∧ bestK l k ≤ k := by
  induction k with
  | zero => exact ⟨h, Nat.le_refl _⟩
  | succ k ih =>
    have := ih (by omega)
    unfold bestK
    split
    · omega
    · omega
theorem getD_of {l : List Lk} {k : Nat} {x : Lk} (h : l[k]? = some x) : l.getD k default = x := by rw [List.getD_eq_getElem?_getD, h]; rfl
set_option maxRecDepth 100000 in
set_option maxHeartbeats 4000000 in
theorem first_any (l : List Lk) (v : Value) (w : World) (hl : Sl 5 w v l.length (lkcells l)) (hn : l.length ≤ 1000) (h0 : 0 < l.length) (hg : ∀ x ∈ l, x.ok) :
    Calls Tryz.prog 55 #[v, .func (.func 56) #[] #[]] w fun e w' => e = .returned (.int .i64 (bestK l l.length : Int)) ∧ Below w.heap.size w w' := by
  have HL := hid hl
  have HG := hid hg
  have HBt := hid (bestK_lt l)
  obtain ⟨ao, cap, rfl, -, h2, h3, -⟩ := hl
  clear hg
  generalize hN : l.length = N at *
  have HN := hid hN
  clear hN
  go_enter Tryz.func55, Tryz.ntmps55
  go_wp2_with fail
  go_loopw [10, 5] (fun i u wr => ∃ k : Nat, k ≤ N ∧ i = .int .i64 (k : Int) ∧ u = .int .i64 (bestK l k : Int) ∧ Hid (Below w.heap.size w wr)) (fun i _ _ => N - (intOf i).toNat)
  case atStart => exact ⟨0, Nat.zero_le _, rfl, rfl, hid (Below.refl _ _)⟩
  case round =>
    obtain ⟨k, hk, rfl, rfl, HB⟩ := hrel
    rename World => wk
    by_cases hkn : k < N
    · obtain ⟨q1, q2⟩ := HBt.out k hkn
      obtain ⟨x, hx⟩ := some_of_lt (show k < l.length by rw [HN.out]; exact hkn)
      obtain ⟨y, hy⟩ := some_of_lt (show bestK l k < l.length by rw [HN.out]; exact q1)
      have hl2 := HL.out.below HB.out
      rw [← HN.out] at hl2
      have HK := hid (show bestK l (k + 1) = if lkOrd x y < 0 then k else bestK l k by rw [bestK, getD_of hx, getD_of hy])
      have HF := hid (fun X => likely_any x y X (HG.out x (List.mem_of_getElem? hx)) (HG.out y (List.mem_of_getElem? hy)))
      obtain ⟨b, o, rfl, c0, c1, c2, c3, c4⟩ := sl_lk hl2 hx
      obtain ⟨b', o', e1, d0, d1, d2, d3, d4⟩ := sl_lk hl2 hy
      cases e1
      clear hl2 hx hy
      unfold Lk.V at HF
      generalize lkOrd x y = C at *
      generalize bestK l k = B at *
      generalize nmg x.n = mA at *
      generalize nmg x.d = mB at *
      generalize nmg y.n = mC at *
      generalize nmg y.d = mD at *
      generalize x.word = mW at *
      generalize y.word = mX at *
      go_upto_region 5 with fail
      obtain ⟨w0, hw0⟩ : ∃ w0, wk.alloc (.cells #[.string mW, .bool false, .string mA, .bool false, .string mB] 89) = w0 := ⟨_, rfl⟩
      obtain ⟨hb0, a0, a1, a2, a3, a4⟩ := box5K hw0
      rw [hw0]
      have HB0 := hid (bel_step HB.out hb0)
      have d0 := keeps hb0 d0
      have d1 := keeps hb0 d1
      have d2 := keeps hb0 d2
      have d3 := keeps hb0 d3
      have d4 := keeps hb0 d4
      clear hw0 hb0 c0 c1 c2 c3 c4
      generalize wk.heap.size = bx at *
      have hbd : Below w0.heap.size w0 w0.drew := below_drewN (Below.refl _ _) 1
      have HBd := hid hbd
      clear hbd
      by_cases hc : C < 0
      · have HE := hid (show bestK l (k + 1) = k by rw [HK.out, if_pos hc])
        go_region_held3 (fun w' => (w'.cell? ⟨bx, 0, none⟩ = some (.string mW) ∧ w'.cell? ⟨bx, 1, none⟩ = some (.bool false) ∧ w'.cell? ⟨bx, 2, none⟩ = some (.string mA) ∧ w'.cell? ⟨bx, 3, none⟩ = some (.bool false) ∧ w'.cell? ⟨bx, 4, none⟩ = some (.string mB)) ∧ (w'.cell? ⟨b, o + B * 5, none⟩ = some (.string mX) ∧ w'.cell? ⟨b, o + B * 5 + 1, none⟩ = some (.bool false) ∧ w'.cell? ⟨b, o + B * 5 + 2, none⟩ = some (.string mC) ∧ w'.cell? ⟨b, o + B * 5 + 3, none⟩ = some (.bool false) ∧ w'.cell? ⟨b, o + B * 5 + 4, none⟩ = some (.string mD)))
          (first | exact ⟨⟨a0, a1, a2, a3, a4⟩, d0, d1, d2, d3, d4⟩ | go_keep)
          (first | (go_at_call 56; refine (HF.out _).mono ?_; rintro e w1 ⟨rfl, hb1⟩; have hb1 := bel_step HBd.out hb1; have HB1 := hid (bel_step HB0.out hb1); have a0 := keeps hb1 a0; have a1 := keeps hb1 a1; have a2 := keeps hb1 a2; have a3 := keeps hb1 a3; have a4 := keeps hb1 a4; have d0 := keeps hb1 d0; have d1 := keeps hb1 d1; have d2 := keeps hb1 d2; have d3 := keeps hb1 d3; have d4 := keeps hb1 d4; clear hb1))
        all_goals
          go_wp2
          go_roundw
          case rel => exact ⟨k + 1, by omega, by go_num, by rw [HE.out], HB1⟩
          case measure => simp [intOf]; omega
      · have HE := hid (show bestK l (k + 1) = B by rw [HK.out, if_neg hc])
        go_region_held3 (fun w' => (w'.cell? ⟨bx, 0, none⟩ = some (.string mW) ∧ w'.cell? ⟨bx, 1, none⟩ = some (.bool false) ∧ w'.cell? ⟨bx, 2, none⟩ = some (.string mA) ∧ w'.cell? ⟨bx, 3, none⟩ = some (.bool false) ∧ w'.cell? ⟨bx, 4, none⟩ = some (.string mB)) ∧ (w'.cell? ⟨b, o + B * 5, none⟩ = some (.string mX) ∧ w'.cell? ⟨b, o + B * 5 + 1, none⟩ = some (.bool false) ∧ w'.cell? ⟨b, o + B * 5 + 2, none⟩ = some (.string mC) ∧ w'.cell? ⟨b, o + B * 5 + 3, none⟩ = some (.bool false) ∧ w'.cell? ⟨b, o + B * 5 + 4, none⟩ = some (.string mD)))
          (first | exact ⟨⟨a0, a1, a2, a3, a4⟩, d0, d1, d2, d3, d4⟩ | go_keep)
          (first | (go_at_call 56; refine (HF.out _).mono ?_; rintro e w1 ⟨rfl, hb1⟩; have hb1 := bel_step HBd.out hb1; have HB1 := hid (bel_step HB0.out hb1); have a0 := keeps hb1 a0; have a1 := keeps hb1 a1; have a2 := keeps hb1 a2; have a3 := keeps hb1 a3; have a4 := keeps hb1 a4; have d0 := keeps hb1 d0; have d1 := keeps hb1 d1; have d2 := keeps hb1 d2; have d3 := keeps hb1 d3; have d4 := keeps hb1 d4; clear hb1))
        all_goals
          go_wp2
          go_roundw
          case rel => exact ⟨k + 1, by omega, by go_num, by rw [HE.out], HB1⟩
          case measure => simp [intOf]; omega
    · obtain rfl : k = N := by omega
      go_wp2
      go_ret
      exact ⟨rfl, HB.out⟩
end Go.Proofs.YtieahckbbohfgaaGreatDoor
