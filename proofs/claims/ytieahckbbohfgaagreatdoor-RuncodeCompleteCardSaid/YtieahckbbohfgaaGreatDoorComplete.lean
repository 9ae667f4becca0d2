/-
  The law RuncodeComplete: the walk.
  No condition.
-/
import Derived.Test.YtieahckbbohfgaaGreatDoorRows
import Derived.Test.YtieahckbbohfgaaGreatDoorAwk42
import Derived.Lib.LaidTab
import Derived.LaidMore
import Derived.MakeChecks
namespace Go.Proofs.YtieahckbbohfgaaGreatDoor
open Go.RowKit
set_option linter.unusedVariables false

theorem maxLen_of {w : World} (h : w.ShapedOpen Tryz.prog) : ∃ m, w.cell? ⟨0, 0, none⟩ = some (.int .i64 m) := Tryz.laysM146.s1_3 w h
theorem tabC_laid {W : World} (h : laidMetH Tryz.prog Rows.runcodeCompleteRow.laid W) : TabAt 7 Lib.deBruijn64tab W := by
  rw [MakeChecks.laidMetH_plain _ _ _ (by kernel_rfl)] at h
  obtain ⟨ps, ⟨_, _, _, _, _, _, _, _, _, _, ⟨g, t, cs, fuel, p, q, hg, ht, hv, hd, _, _⟩, _⟩, _⟩ := h
  obtain rfl := Option.some.inj ((show Tryz.prog.globalNamed "math/bits.deBruijn64tab" = some 7 by kernel_rfl).symm.trans hg)
  obtain rfl := Option.some.inj ((show (Tryz.prog.globals[7]?).map (·.type) = some 212 by kernel_rfl).symm.trans ht)
  have hc := Lib.cells_of_tab (zs := Lib.deBruijn64tab.map Int.ofNat) Tryz.underlying212 Tryz.underlying5 (by kernel_rfl) (by kernel_rfl) hd
  intro j hj
  have hl : Lib.deBruijn64tab.length = 64 := by decide
  rw [World.var?_cell hg hv j, ← Array.getElem?_toList, hc, List.map_map, List.getElem?_map, List.getElem?_eq_getElem (by omega)]
  rw [List.getD_eq_getElem?_getD, List.getElem?_eq_getElem (by omega)]
  rfl
def sumK (x : Nat) : Nat → Nat
  | 0 => 0
  | k + 1 => sumK x k + 2 ^ (30 - (golW x k).length)
theorem sumK_le (x k : Nat) : sumK x k ≤ k * 1073741824 := by
  induction k with
  | zero => exact Nat.le_refl _
  | succ k ih =>
    have := Nat.pow_le_pow_right (n := 2) (by decide) (show 30 - (golW x k).length ≤ 30 by omega)
    rw [sumK]; omega
theorem kraft : ∀ x < 21, 1 ≤ x → ∀ y < 9, sumK x (x * y) = 1073741824 - 2 ^ (30 - y) := by decide +kernel
theorem golW_small {x n : Nat} (h1 : 1 ≤ x) (h2 : x ≤ 20) (hn : n < x * 8) : 1 ≤ (golW x n).length ∧ (golW x n).length ≤ 30 ∧ golV x n = .tuple #[.string (strW (golW x n)), .int .i64 0] := by
  have h3 := Nat.div_lt_of_lt_mul hn
  have h4 := golT_le x (n % x)
  have h5 : gB x ≤ 5 := Lib.bitLenAux_le 64 (x - 1) 5 (by omega)
  rw [golW_len, golV]
  generalize n / x = q at *
  rw [if_neg (by omega)]
  exact ⟨by omega, by omega, rfl⟩
set_option maxRecDepth 100000 in
set_option maxHeartbeats 400000 in
theorem runcodeComplete_any (A B : Int) (w : World) (hA0 : IntKind.u8.min ≤ A) (hA1 : A ≤ IntKind.u8.max) (hB0 : IntKind.u8.min ≤ B) (hB1 : B ≤ IntKind.u8.max) (hL : laidMetH Tryz.prog Rows.runcodeCompleteRow.laid w) (hG : w.ShapedOpen Tryz.prog) :
    Calls Tryz.prog 3 #[.int .u8 A, .int .u8 B] w fun e w' => e = .returned (.bool true) ∧ Below w.heap.size w w' := by
  have hA0 : 0 ≤ A := hA0
  have hA1 : A ≤ 255 := hA1
  have hB0 : 0 ≤ B := hB0
  have hB1 : B ≤ 255 := hB1
  obtain ⟨mx, hmx⟩ := maxLen_of hG
  have hT := tabC_laid hL
  have HAw := hid (fun X (h : Below w.heap.size w X) => awake42_any mx X (tab_below hT h) (keeps h hmx))
  have eA : A.tmod 20 = A % 20 := Int.tmod_eq_emod_of_nonneg hA0
  have eB : B.tmod 9 = B % 9 := Int.tmod_eq_emod_of_nonneg hB0
  obtain ⟨x, hx, hx1, hx2⟩ : ∃ x : Nat, (1 : Int) + A % 20 = (x : Int) ∧ 1 ≤ x ∧ x ≤ 20 := ⟨(1 + A % 20).toNat, by omega, by omega, by omega⟩
  obtain ⟨y, hy, hy1⟩ : ∃ y : Nat, B % 9 = (y : Int) ∧ y ≤ 8 := ⟨(B % 9).toNat, by omega, by omega⟩
  have HGo := hid (fun n X (hn : n < x * 8) h => golomb_any x n X hx1 (by omega) (by omega) h)
  have HTb := hid (fun X (h : Below w.heap.size w X) => tab_below hT h)
  have HKr := hid (kraft x (by omega) hx1 y (by omega))
  have HSm := hid (fun n (hn : n < x * 8) => golW_small hx1 hx2 hn)
  clear hL hG hT hmx
  have hN : (x : Int) * (y : Int) = ((x * y : Nat) : Int) := by push_cast; rfl
  have hN8 : x * y ≤ x * 8 := Nat.mul_le_mul_left _ hy1
  have hN160 : x * 8 ≤ 160 := by omega
  generalize hNN : x * y = N at *
  go_enter Tryz.func3, Tryz.ntmps3
  go_wp2_with fail
  go_loopw [21, 7] (fun i u wr => ∃ k : Nat, k ≤ N ∧ i = .int .i64 (k : Int) ∧ u = .int .i64 (sumK x k : Int) ∧ Hid (Below w.heap.size w wr)) (fun i _ _ => N - (intOf i).toNat)
  case atStart => exact ⟨0, Nat.zero_le _, rfl, rfl, hid (Below.refl _ _)⟩
  case round =>
    obtain ⟨k, hk, rfl, rfl, HB⟩ := hrel
    rename World => wk
    by_cases hkn : k < N
    · obtain ⟨g1, g2, g3⟩ := HSm.out k (by omega)
      have HGk := hid (HGo.out k wk (by omega) (HTb.out wk HB.out))
      rw [g3] at HGk
      have hs := sumK_le x k
      have HS := hid (show sumK x (k + 1) = sumK x k + 2 ^ (30 - (golW x k).length) from rfl)
      have hsz : (strW (golW x k)).size = (golW x k).length := strW_size _
      clear g3
      generalize strW (golW x k) = S at *
      generalize (golW x k).length = L at *
      obtain ⟨E, hE⟩ : ∃ E, E = 30 - L := ⟨_, rfl⟩
      have hEi : (30 : Int) - (L : Int) = (E : Int) := by omega
      have hp := Nat.pow_le_pow_right (n := 2) (by decide) (show 30 - L ≤ 30 by omega)
      rw [← hE] at HS hp
      have hQI : ((2 : Int) ^ E) = ((2 ^ E : Nat) : Int) := by push_cast; rfl
      have hE0 : (0 : Int) ≤ (E : Int) := by omega
      generalize (2 : Nat) ^ E = Q at *
      have hp : Q ≤ 1073741824 := hp
      have hshl : IntKind.i64.wrap (2 ^ E) = (Q : Int) := by rw [hQI]; exact IntWalk.i64_in _ (by omega)
      clear hQI hE
      generalize sumK x k = SK at *
      go_upto_region 9 with (go_at_call 8; refine HGk.out.mono ?_; rintro e w1 ⟨rfl, hb1⟩; have HB1 := hid (bel_step HB.out hb1); clear hb1)
      go_wp2
      go_roundw
      case rel => exact ⟨k + 1, by omega, by go_num, by rw [HS.out]; simp, HB1⟩
      case measure => simp [intOf]; omega
    · obtain rfl : k = N := by omega
      have hq := HKr.out
      have hp := Nat.pow_le_pow_right (n := 2) (by decide) (show 30 - y ≤ 30 by omega)
      obtain ⟨E, hE⟩ : ∃ E, E = 30 - y := ⟨_, rfl⟩
      have hEi : (30 : Int) - (y : Int) = (E : Int) := by omega
      rw [← hE] at hq hp
      have hQI : ((2 : Int) ^ E) = ((2 ^ E : Nat) : Int) := by push_cast; rfl
      have hE0 : (0 : Int) ≤ (E : Int) := by omega
      generalize (2 : Nat) ^ E = Q at *
      have hp : Q ≤ 1073741824 := hp
      have hshl : IntKind.i64.wrap (2 ^ E) = (Q : Int) := by rw [hQI]; exact IntWalk.i64_in _ (by omega)
      have hd : (1073741824 : Int) - (Q : Int) = (sumK x k : Int) := by omega
      clear hQI hE hq
      generalize sumK x k = SK at *
      go_wp2_with (go_at_call 9; refine (HAw.out _ HB.out).mono ?_; rintro e w2 ⟨rfl, hb2⟩; have HB2 := hid (bel_step HB.out hb2); clear hb2)
      go_ret
      exact ⟨ret_bool (by simp), HB2.out⟩
end Go.Proofs.YtieahckbbohfgaaGreatDoor
