/-
  The plain laws of StripTransposed, joined: as many rectangles as transposed ones; the transposed rows of columns.
  No condition.
-/
import Derived.Test.YtppflnkadjddiaaTransLaw
import Derived.Test.YtppflnkadjddiaaCounts
namespace Go.Proofs.Ytppflnkadjddiaa
open Go.RowKit
set_option linter.unusedVariables false

/-! As many of both. -/
def pim (h w p : Nat) : Nat := h * (w - 1 - p % w) + (h - 1 - p / w)
theorem mul_add_lt {a b h w : Nat} (ha : a < w) (hb : b < h) : h * a + b < h * w := by
  have h1 : h * (a + 1) ≤ h * w := Nat.mul_le_mul_left _ ha
  rw [Nat.mul_succ] at h1
  omega
theorem split_div {a b h : Nat} (hb : b < h) : (h * a + b) / h = a ∧ (h * a + b) % h = b := by
  have h0 : 0 < h := by omega
  constructor
  · rw [Nat.mul_add_div h0, Nat.div_eq_of_lt hb, Nat.add_zero]
  · rw [Nat.mul_add_mod, Nat.mod_eq_of_lt hb]
theorem pim_at {h w i t : Nat} (ht : t < w) : pim h w (w * i + t) = h * (w - 1 - t) + (h - 1 - i) := by
  unfold pim
  rw [(split_div ht).1, (split_div ht).2]
theorem pim_lt {h w q : Nat} (hh : 0 < h) (hw : 0 < w) : pim w h q < w * h := by
  unfold pim
  generalize q / h = d
  generalize q % h = r
  exact mul_add_lt (by omega) (by omega)
theorem pim_pim {h w q : Nat} (hh : 0 < h) (hw : 0 < w) (hq : q < h * w) : pim h w (pim w h q) = q := by
  have h1 : q % h < h := Nat.mod_lt _ hh
  have h2 : q / h < w := Nat.div_lt_of_lt_mul hq
  have e : pim w h q = w * (h - 1 - q % h) + (w - 1 - q / h) := rfl
  have key := Nat.div_add_mod q h
  rw [e]
  generalize q / h = d at *
  generalize q % h = r at *
  rw [pim_at (by omega), show w - 1 - (w - 1 - d) = d from by omega, show h - 1 - (h - 1 - r) = r from by omega]
  exact key
def flipN (h w x : Nat) : Nat := bitsOf (fun p => x.testBit (pim h w p)) (w * h)
theorem flipN_lt (h w x : Nat) : flipN h w x < 2 ^ (w * h) := bitsOf_lt _ _
theorem flip_flip {h w x : Nat} (hh : 0 < h) (hw : 0 < w) (hx : x < 2 ^ (h * w)) : flipN w h (flipN h w x) = x := by
  apply Nat.eq_of_testBit_eq
  intro i
  unfold flipN
  rw [bitsOf_bit]
  by_cases hi : i < h * w
  · rw [decide_eq_true hi, Bool.true_and, bitsOf_bit, decide_eq_true (pim_lt hh hw), Bool.true_and, pim_pim hh hw hi]
  · rw [decide_eq_false hi, Bool.false_and]
    exact (Nat.testBit_lt_two_pow (Nat.lt_of_lt_of_le hx (Nat.pow_le_pow_right (by decide) (by omega)))).symm
theorem flip_bit {h w x i t : Nat} (hi : i < h) (ht : t < w) : (flipN h w x).testBit (w * i + t) = x.testBit (h * (w - 1 - t) + (h - 1 - i)) := by
  unfold flipN
  rw [bitsOf_bit, pim_at ht, decide_eq_true (mul_add_lt hi ht), Bool.true_and]
theorem side_nat (h : Nat) : (side (h : Int)).toNat = 2 ^ h := by
  unfold side
  rw [Int.toNat_natCast]
  have : ((2 : Int) ^ h) = ((2 ^ h : Nat) : Int) := by rw [Int.natCast_pow]; rfl
  rw [this, Int.toNat_natCast]
theorem bt_nat (n t : Nat) : bt (n : Int) t = ((n.testBit t).toNat : Int) := by
  unfold bt
  rw [Nat.toNat_testBit, Int.natCast_emod, Int.natCast_ediv, Int.natCast_pow]
  rfl
theorem bt_col {h x j t : Nat} (ht : t < h) : bt ((x / (2 ^ h) ^ j % 2 ^ h : Nat) : Int) t = ((x.testBit (h * j + t)).toNat : Int) := by
  rw [bt_nat, ← Nat.pow_mul, Nat.testBit_mod_two_pow, Nat.testBit_div_two_pow, decide_eq_true ht, Bool.true_and, Nat.add_comm t]
theorem rects_fine {h w : Nat} (h2 : 2 ≤ h) (b : List Int) (x : Nat) : rects (h : Int) b w x = true ↔ Fine h w b (fun j t => bt ((x / (2 ^ h) ^ j % 2 ^ h : Nat) : Int) t) := by
  rw [rects, side_nat, colz]
  exact adj_fine h2 b _ (fun j _ => Int.natCast_nonneg _)
theorem cnt_turned {h w : Nat} (h2 : 2 ≤ h) (w2 : 2 ≤ w) (b : List Int) : cntTo (rects (h : Int) b w) ((side (h : Int)).toNat ^ w) = cntTo (rects (w : Int) (trL b) h) ((side (w : Int)).toNat ^ h) := by
  rw [side_nat, side_nat, ← Nat.pow_mul, ← Nat.pow_mul, Nat.mul_comm w h]
  have hlt : ∀ a b x, flipN a b x < 2 ^ (a * b) := fun a b x => by rw [Nat.mul_comm a b]; exact flipN_lt _ _ _
  refine cntTo_perm _ _ _ (flipN h w) (flipN w h) (fun i _ => hlt h w i) (fun i _ => by rw [Nat.mul_comm h w]; exact hlt w h i) (fun i hi => flip_flip (by omega) (by omega) hi) (fun i hi => flip_flip (by omega) (by omega) (by rw [Nat.mul_comm w h]; exact hi)) (fun x hx => ?_)
  rw [Bool.eq_iff_iff, rects_fine w2, rects_fine h2]
  refine fine_tr b (fun j t => bt_bound _ t) (fun i t hi ht => ?_)
  rw [bt_col ht, bt_col (by omega), flip_bit hi ht]

/-! The transposed rows. -/
def turnS (rows : List ByteArray) (k : Nat) : List UInt8 := rows.filterMap (fun r => r.data.toList[k]?)
def turnL (rows : List ByteArray) : List ByteArray := (List.range (width rows)).map (fun k => ⟨(turnS rows k).toArray⟩)
theorem colAt_bt (i : Nat) : ∀ (n : Nat) (rows : List ByteArray), rows.length = n → ∀ t r, t < n → rows[n - 1 - t]? = some r → bt (colAt rows i) t = bitv (r.data.toList.getD i 0) := by
  intro n
  induction n with
  | zero => intro rows _ t r ht; omega
  | succ n ih =>
    intro rows hl t r ht hr
    have hne : rows ≠ [] := by rintro rfl; simp at hl
    obtain ⟨m, s, rfl⟩ : ∃ m s, rows = m ++ [s] := ⟨rows.dropLast, rows.getLast hne, (List.dropLast_concat_getLast hne).symm⟩
    have hm : m.length = n := by simpa using hl
    have hv : ∀ u, 0 ≤ bitv u ∧ bitv u ≤ 1 := by intro u; unfold bitv; split <;> omega
    have hv1 := hv (s.data.toList.getD i 0)
    rw [colAt_snoc]
    cases t with
    | zero =>
      rw [Nat.add_sub_cancel, Nat.sub_zero, List.getElem?_append_right (by omega), hm] at hr
      simp at hr
      subst hr
      unfold bt
      simp only [Int.pow_zero, Int.ediv_one]
      omega
    | succ t =>
      rw [List.getElem?_append_left (by omega)] at hr
      rw [← ih m hm t r (by omega) (by rw [← hr]; congr 1; omega)]
      unfold bt
      rw [Int.pow_succ, Int.mul_comm (2 ^ t), ← Int.ediv_ediv_of_nonneg (by decide)]
      congr 2
      omega
theorem filterMap_all {α β : Type} (f : α → Option β) (g : α → β) : ∀ (l : List α), (∀ x ∈ l, f x = some (g x)) → l.filterMap f = l.map g := by
  intro l
  induction l with
  | nil => intro _; rfl
  | cons a r ih =>
    intro h
    rw [List.filterMap_cons, h a (List.mem_cons_self ..), List.map_cons, ih (fun x hx => h x (List.mem_cons_of_mem _ hx))]
theorem turnS_rows {h : Nat} {C : List Int} {k : Nat} {x : Int} (hx : C[k]? = some x) : turnS (rowsGo (h : Int) C h) k = (List.range h).map (fun i => dig (h - 1 - i) x) := by
  unfold turnS rowsGo
  rw [List.filterMap_map, Int.toNat_natCast]
  apply filterMap_all
  intro i hi
  simp [rowStr, hx]
theorem turned_valid {h : Nat} {C b : List Int} (h2 : 2 ≤ h) (h4 : h ≤ 4) (w2 : 2 ≤ C.length) (w4 : C.length ≤ 4) (ha : C.all (okCol (h : Int)) = true) :
    validE (trL b) (turnL (rowsGo (h : Int) C h)) = 0 ∧ validB (trL b) (turnL (rowsGo (h : Int) C h)) = adj (okP (h : Int) b) C := by
  have hw := width_rowsGo (h := (h : Int)) (c := C) (n := h) (by omega)
  have hlen : (turnL (rowsGo (h : Int) C h)).length = C.length := by simp [turnL, hw]
  have hget : ∀ (k : Nat) (x : Int), C[k]? = some x → (turnL (rowsGo (h : Int) C h))[k]? = some (⟨((List.range h).map (fun i => dig (h - 1 - i) x)).toArray⟩ : ByteArray) := by
    intro k x hx
    unfold turnL
    rw [hw, List.getElem?_map, List.getElem?_range (lt_of_some hx), Option.map_some, turnS_rows hx]
  have hall : ∀ r ∈ turnL (rowsGo (h : Int) C h), r.size = h ∧ bitRow r = true := by
    intro r hr
    obtain ⟨k, hk, rfl⟩ := List.getElem_of_mem hr
    rw [hlen] at hk
    obtain ⟨x, hx⟩ := some_of_lt hk
    have := hget k x hx
    rw [List.getElem?_eq_getElem (by rw [hlen]; exact hk), Option.some.injEq] at this
    rw [this]
    refine ⟨by simp [ByteArray.size], ?_⟩
    simp only [bitRow, List.all_map, List.all_eq_true]
    intro i _
    exact isBit_dig _ x
  have hwid : width (turnL (rowsGo (h : Int) C h)) = h := by
    cases hR : turnL (rowsGo (h : Int) C h) with
    | nil => rw [hR] at hlen; simp at hlen; omega
    | cons r t => exact (hall r (by rw [hR]; exact List.mem_cons_self ..)).1
  have hE : colsErr (turnL (rowsGo (h : Int) C h)) = 0 := by
    rw [colsErr, if_pos (by omega), hwid, if_pos, if_neg (by omega), if_pos]
    · rw [List.all_eq_true]; intro r hr; exact (hall r hr).2
    · rw [sameLen, List.all_eq_true]; intro r hr; rw [(hall r hr).1]; simp
  have hV : validE (trL b) (turnL (rowsGo (h : Int) C h)) = 0 := by
    rw [validE, if_neg (by simp [hE]), hlen]
    exact chk_trL _ _ (by omega) (by omega)
  refine ⟨hV, ?_⟩
  rw [validB, if_pos hV, colsL, if_pos hE, hwid, hlen]
  have hCm : C = (List.range C.length).map (fun j => C.getD j 0) := by
    apply List.ext_getElem
    · simp
    · intro i h1 h2; simp [h1]
  have hC0 : ∀ j, j < C.length → 0 ≤ C.getD j 0 := by
    intro j hj
    obtain ⟨x, hx⟩ := some_of_lt hj
    rw [List.getD_eq_getElem?_getD, hx]
    exact (all_get ha hx).1
  have e1 : adj (okP (h : Int) b) C = true ↔ Fine h C.length b (fun j t => bt (C.getD j 0) t) := by
    have := adj_fine h2 b (w := C.length) (fun j => C.getD j 0) hC0
    rwa [← hCm] at this
  rw [Bool.eq_iff_iff, adj_fine w2 (trL b) _ (fun i _ => (colAt_bound _ _).1), e1]
  refine fine_tr b (fun j t => bt_bound _ t) (fun i t hi ht => ?_)
  obtain ⟨x, hx⟩ := some_of_lt (l := C) (k := C.length - 1 - t) (by omega)
  rw [colAt_bt i C.length _ hlen t _ ht (hget _ _ hx), List.getD_eq_getElem?_getD, List.getD_eq_getElem?_getD, hx]
  simp [hi, bitv_dig, bt]
end Go.Proofs.Ytppflnkadjddiaa
