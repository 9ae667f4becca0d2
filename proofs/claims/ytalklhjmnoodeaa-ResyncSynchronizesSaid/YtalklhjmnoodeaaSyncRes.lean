/-
  Which words lead from all states to the state 0: the word that is found does, no word before it does.
  No condition: plain laws.
-/
import Derived.Test.YtalklhjmnoodeaaSyncMin
import Derived.Test.YtalklhjmnoodeaaSyncA
namespace Go.Proofs.Ytalklhjmnoodeaa
open Go.RowKit
set_option linter.unusedVariables false

theorem letter_dig {c : UInt8} (h : 0 ≤ digit c) : lettersL.getD (dig c) 0 = c := by
  have key : ∀ (l : List UInt8) (c : UInt8), 0 ≤ Lib.indexByte l c → l.getD (Lib.indexByte l c).toNat 0 = c := by
    intro l
    induction l with
    | nil => intro c h; simp [Lib.indexByte] at h
    | cons b l ih =>
      intro c h
      rw [Lib.indexByte] at h ⊢
      by_cases hb : (b == c) = true
      · rw [if_pos hb]; simpa using hb
      · rw [if_neg hb] at h ⊢
        by_cases hi : (Lib.indexByte l c == -1) = true
        · rw [if_pos hi] at h; omega
        · rw [if_neg hi] at h ⊢
          have hlow := (ib_low l c).1
          have hne : Lib.indexByte l c ≠ -1 := by simpa using hi
          have := ih c (by omega)
          rw [show (Lib.indexByte l c + 1).toNat = (Lib.indexByte l c).toNat + 1 by omega]
          simpa using this
  exact key lettersL c h
theorem dig_letter {a : Nat} (h : a < 16) : dig (lettersL.getD a 0) = a := by
  have := (digit_letW h).1
  unfold dig; rw [this]; rfl
theorem letters_lt {a b : Nat} (ha : a < 16) (hb : b < 16) : lettersL.getD a 0 < lettersL.getD b 0 ↔ a < b := by
  have key : (List.range 16).all (fun a => (List.range 16).all fun b => decide (lettersL.getD a 0 < lettersL.getD b 0) == decide (a < b)) = true := by decide
  have := List.all_eq_true.1 (List.all_eq_true.1 key a (List.mem_range.2 ha)) b (List.mem_range.2 hb)
  rw [beq_iff_eq, decide_eq_decide] at this
  exact this
def digs (x : ByteArray) : List Nat := x.data.toList.map dig
theorem runN_digs (nx : Nat → Nat → Nat) (s : Nat) (x : ByteArray) : runN nx s x.data.toList = runD nx s (digs x) := by
  unfold runN runD digs
  rw [List.foldl_map]
theorem toStr_list (l : List Nat) : (toStr l).data.toList = l.map fun a => lettersL.getD a 0 := by simp [toStr]
theorem digs_toStr {l : List Nat} {q : Nat} (h : ∀ b ∈ l, b < q) (hq : q ≤ 16) : digs (toStr l) = l := by
  unfold digs
  rw [toStr_list, List.map_map]
  refine (List.map_congr_left (g := id) fun a ha => ?_).trans (List.map_id _)
  exact dig_letter (by have := h a ha; omega)
theorem ok_toStr {l : List Nat} {q : Nat} (h : ∀ b ∈ l, b < q) (hq : q ≤ 16) : okWord q (toStr l) = true := by
  unfold okWord
  rw [toStr_list, List.all_eq_true]
  intro c hc
  obtain ⟨a, ha, rfl⟩ := List.mem_map.1 hc
  have h1 := h a ha
  rw [(digit_letW (a := a) (by omega)).1, decide_eq_true_iff]
  omega
theorem digs_lt {q : Nat} {x : ByteArray} (h : okWord q x = true) : ∀ b ∈ digs x, b < q := by
  intro b hb
  obtain ⟨c, hc, rfl⟩ := List.mem_map.1 hb
  have := okWord_at h hc
  unfold dig
  omega
theorem less_lex {u : List UInt8} {l : List Nat} (hu : ∀ c ∈ u, 0 ≤ digit c) (hl : ∀ b ∈ l, b < 16) (hn : u.length = l.length) (h : Op.bytesLess u (l.map fun a => lettersL.getD a 0) = true) : lexL (u.map dig) l := by
  induction u generalizing l with
  | nil =>
    cases l with
    | nil => simp [Op.bytesLess] at h
    | cons b l => simp at hn
  | cons c u ih =>
    cases l with
    | nil => simp at hn
    | cons b l =>
      have hc := hu c (by simp)
      have hb := hl b (by simp)
      have hc16 : dig c < 16 := by have := (digit_low c).2; unfold dig; omega
      have hlt := letters_lt hc16 hb
      rw [letter_dig hc] at hlt
      rw [List.map_cons, Op.bytesLess] at h
      by_cases h1 : c < lettersL.getD b 0
      · exact .inl (hlt.1 h1)
      · by_cases h2 : c = lettersL.getD b 0
        · have e : dig c = b := by rw [h2]; exact dig_letter hb
          refine .inr ⟨e, ih (fun c hc => hu c (by simp [hc])) (fun b hb => hl b (by simp [hb])) (by simpa using hn) ?_⟩
          simpa [h1, h2] using h
        · exfalso
          have h3 : (c == lettersL.getD b 0) = false := by simpa using h2
          have h4 : decide (c < lettersL.getD b 0) = false := by simpa using h1
          rw [h4, h3] at h
          cases h
theorem slt_of {q : Nat} {x : ByteArray} {l : List Nat} (hx : okWord q x = true) (hl : ∀ b ∈ l, b < q) (hq : q ≤ 16) (h : x.size < l.length ∨ (x.size = l.length ∧ Op.bytesLess x.data.toList (toStr l).data.toList = true)) : slt (digs x) l := by
  have hd : (digs x).length = x.size := by unfold digs; rw [List.length_map, ba_len]
  rcases h with h | ⟨h1, h2⟩
  · left; omega
  · right
    refine ⟨by omega, less_lex (fun c hc => (okWord_at hx hc).1) (fun b hb => by have := hl b hb; omega) (by rw [ba_len]; exact h1) ?_⟩
    rw [← toStr_list]; exact h2
/-- Does a word lead from all states to 0? -/
def rsB (ws : List ByteArray) (x : ByteArray) : Bool := (List.range (sizeW ws)).all fun s => runN (nxN ws) s x.data.toList == 0
theorem rsB_iff {ws : List ByteArray} {x : ByteArray} : rsB ws x = true ↔ ∀ s < sizeW ws, runD (nxN ws) s (digs x) = 0 := by
  unfold rsB
  rw [List.all_eq_true]
  simp only [List.mem_range, beq_iff_eq, runN_digs]
theorem rs_found {ws : List ByteArray} {q : Nat} {l : List Nat} (hc : ∀ s a, nxN ws s a < sizeW ws) (h0 : 0 < sizeW ws) (hq : q ≤ 16) (hn : sizeW ws ≤ 16) (h : syncN (nxN ws) (sizeW ws) q = some l) :
    rsB ws (toStr l) = true ∧ okWord q (toStr l) = true ∧ (toStr l).size ≤ 65536 ∧ (toStr l).size = l.length ∧
    ∀ x, okWord q x = true → (x.size < l.length ∨ (x.size = l.length ∧ Op.bytesLess x.data.toList (toStr l).data.toList = true)) → rsB ws x = false := by
  obtain ⟨h1, h2, h3, h4⟩ := sync_some hc h0 h
  have hp : 2 ^ sizeW ws ≤ 2 ^ 16 := Nat.pow_le_pow_right (by decide) hn
  refine ⟨rsB_iff.2 (by rw [digs_toStr h2 hq]; exact h1), ok_toStr h2 hq, by rw [toStr_size]; rw [show (2 : Nat) ^ 16 = 65536 by decide] at hp; omega, toStr_size l, fun x hx hlt => ?_⟩
  cases hb : rsB ws x with
  | false => rfl
  | true => exact absurd (slt_of hx h2 hq hlt) (h4 (digs x) (digs_lt hx) (rsB_iff.1 hb))
theorem rs_none {ws : List ByteArray} {q : Nat} (hc : ∀ s a, nxN ws s a < sizeW ws) (h0 : 0 < sizeW ws) (h : syncN (nxN ws) (sizeW ws) q = none) {x : ByteArray} (hx : okWord q x = true) : rsB ws x = false := by
  cases hb : rsB ws x with
  | false => rfl
  | true => exact absurd (rsB_iff.1 hb) (sync_none hc h0 h (digs x) (digs_lt hx))
end Go.Proofs.Ytalklhjmnoodeaa
