/-
  The plain law: rows and columns undo each other.
  The height is one, and the columns are columns of that height.
-/
import Derived.Test.YtppflnkadjddiaaColumns
import Derived.Test.YtppflnkadjddiaaStripRows
namespace Go.Proofs.Ytppflnkadjddiaa
open Go.RowKit
set_option linter.unusedVariables false

theorem okCol_colsOf (h : Int) (l : List Int) (h1 : 1 ≤ h) (h4 : h ≤ 4) : (colsOf h l).all (okCol h) = true := by
  have hs := (side_wrap h h1 h4).2.1
  rw [List.all_eq_true]
  intro x hx
  simp only [colsOf, List.mem_map] at hx
  obtain ⟨y, _, rfl⟩ := hx
  simp only [okCol, Bool.and_eq_true, decide_eq_true_eq]
  exact ⟨Int.emod_nonneg _ (by omega), Int.emod_lt_of_pos _ (by omega)⟩
theorem colsOf_len (h : Int) (l : List Int) : (colsOf h l).length = l.length := by simp [colsOf]
theorem rowsErr_ok {h : Int} {c : List Int} (h1 : 1 ≤ h) (h4 : h ≤ 4) (hn : c.length ≤ 65536) (ha : c.all (okCol h) = true) : rowsErr h c = 0 := by
  rw [rowsErr, if_pos ⟨h1, h4⟩, if_neg (by omega), if_pos ha]
theorem rowsGo_get (h : Int) (c : List Int) (n j : Nat) (hj : j < n) : (rowsGo h c n)[j]? = some ⟨(rowStr (h.toNat - 1 - j) c).toArray⟩ := by simp [rowsGo, hj]
theorem isBit_dig (i : Nat) (x : Int) : isBit (dig i x) = true := by unfold dig; split <;> rfl
theorem bitv_dig (i : Nat) (x : Int) : bitv (dig i x) = x / 2 ^ i % 2 := by
  unfold dig
  split
  · rename_i e; rw [e]; rfl
  · rename_i e
    have : bitv 49 = 1 := rfl
    rw [this]; omega
theorem rowsGo_size {h : Int} {c : List Int} {n : Nat} {r : ByteArray} (hr : r ∈ rowsGo h c n) : r.size = c.length := by
  simp only [rowsGo, List.mem_map] at hr
  obtain ⟨j, _, rfl⟩ := hr
  simp [ByteArray.size, rowStr_len]
theorem rowsGo_bits {h : Int} {c : List Int} {n : Nat} {r : ByteArray} (hr : r ∈ rowsGo h c n) : bitRow r = true := by
  simp only [rowsGo, List.mem_map] at hr
  obtain ⟨j, _, rfl⟩ := hr
  simp only [bitRow, rowStr, List.all_map, List.all_eq_true]
  intro x _
  exact isBit_dig _ x
theorem width_rowsGo {h : Int} {c : List Int} {n : Nat} (hn : 0 < n) : width (rowsGo h c n) = c.length := by
  have h0 := rowsGo_get h c n 0 hn
  cases hr : rowsGo h c n with
  | nil => rw [hr] at h0; simp at h0
  | cons r t => exact rowsGo_size (h := h) (c := c) (n := n) (by rw [hr]; exact List.mem_cons_self ..)
theorem colsErr_rowsGo {h : Int} {c : List Int} (h1 : 1 ≤ h) (h4 : h ≤ 4) (hn : c.length ≤ 65536) : colsErr (rowsGo h c h.toNat) = 0 := by
  have hl := rowsGo_len h c h.toNat
  have hw := width_rowsGo (h := h) (c := c) (n := h.toNat) (by omega)
  rw [colsErr, if_pos (by rw [hl]; omega), hw, if_pos, if_neg (by omega), if_pos]
  · rw [List.all_eq_true]; intro r hr; exact rowsGo_bits hr
  · rw [sameLen, List.all_eq_true]; intro r hr; rw [rowsGo_size hr]; simp
theorem colAt_rowsGo {h : Int} {c : List Int} {k : Nat} {x : Int} (hx : c[k]? = some x) (h0 : 0 ≤ x) (h1 : x < 2 ^ h.toNat) : ∀ n, n ≤ h.toNat → colAt (rowsGo h c n) k = x / 2 ^ (h.toNat - n) := by
  intro n
  induction n with
  | zero =>
    intro _
    have : rowsGo h c 0 = [] := rfl
    rw [this, Nat.sub_zero, Int.ediv_eq_zero_of_lt h0 h1]
    rfl
  | succ n ih =>
    intro hn
    rw [rowsGo_succ, colAt_snoc, ih (by omega)]
    have hg : ((⟨(rowStr (h.toNat - 1 - n) c).toArray⟩ : ByteArray).data.toList.getD k 0) = dig (h.toNat - 1 - n) x := by
      simp [rowStr, hx]
    rw [hg, bitv_dig]
    have e1 : h.toNat - n = (h.toNat - 1 - n) + 1 := by omega
    have e2 : h.toNat - (n + 1) = h.toNat - 1 - n := by omega
    rw [e1, e2, Int.pow_succ, ← Int.ediv_ediv_of_nonneg (by exact Int.le_of_lt (Int.pow_pos (by decide)))]
    omega
theorem colsL_rowsGo {h : Int} {c : List Int} (h1 : 1 ≤ h) (h4 : h ≤ 4) (hn : c.length ≤ 65536) (ha : c.all (okCol h) = true) : colsL (rowsGo h c h.toNat) = c := by
  rw [colsL, if_pos (colsErr_rowsGo h1 h4 hn), width_rowsGo (by omega)]
  apply List.ext_getElem?
  intro k
  by_cases hk : k < c.length
  · obtain ⟨x, hx⟩ := some_of_lt hk
    have hb := all_get ha hx
    rw [hx, List.getElem?_map, List.getElem?_range hk, Option.map_some, colAt_rowsGo hx hb.1 hb.2 h.toNat (Nat.le_refl _)]
    simp
  · rw [List.getElem?_eq_none (by simp; omega), List.getElem?_eq_none (by omega)]
theorem rowsL_ok {h : Int} {c : List Int} (h1 : 1 ≤ h) (h4 : h ≤ 4) (hn : c.length ≤ 65536) (ha : c.all (okCol h) = true) : rowsL h c = rowsGo h c h.toNat := by
  rw [rowsL, if_pos (rowsErr_ok h1 h4 hn ha)]
theorem any_rowsGo (h : Int) (c : List Int) (n : Nat) : (rowsGo h c n).any (fun r => decide (r.size ≠ c.length)) = false := by
  rw [List.any_eq_false]
  intro r hr
  simp [rowsGo_size hr]
end Go.Proofs.Ytppflnkadjddiaa
