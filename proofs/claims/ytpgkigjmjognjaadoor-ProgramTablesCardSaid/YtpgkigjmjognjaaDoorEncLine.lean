/-
  The lines of an encoder's cells.
  No condition: plain laws.
-/
import Derived.Test.YtpgkigjmjognjaaDoorEncLaw
import Derived.Test.YtpgkigjmjognjaaDoorSplitLn
import Derived.Lib.Strings
import Derived.Lib.Join
import Derived.Lib.ItoaNum
namespace Go.Proofs.YtpgkigjmjognjaaDoor
open Go.RowKit
set_option linter.unusedVariables false

/-- A number in digits. -/
def decB (k : Int) : ByteArray := ⟨(Lib.decDigits k.toNat).toArray⟩
def spc : ByteArray := ⟨#[32]⟩
theorem dec_low {k : Nat} (h : k < 10) : (Lib.decDigits k).length = 1 ∧ (10 : UInt8) ∉ Lib.decDigits k := by
  have h2 := List.all_eq_true.1 (show (List.range 10).all (fun k => decide ((Lib.decDigits k).length = 1 ∧ (10 : UInt8) ∉ Lib.decDigits k)) = true by decide +kernel) k (List.mem_range.2 h)
  exact of_decide_eq_true h2
theorem decB_low {k : Int} (h0 : 0 ≤ k) (h : k < 10) : (decB k).size = 1 ∧ (10 : UInt8) ∉ (decB k).data.toList := by
  have := dec_low (k := k.toNat) (by omega)
  unfold decB
  exact ⟨by rw [← ba_len]; simpa using this.1, by simpa using this.2⟩
/-- A line: two numbers, a word, a number. -/
def lineC (s i : Int) (c : Cl) : ByteArray := (((((decB s ++ spc) ++ decB i) ++ spc) ++ c.word) ++ spc) ++ decB c.st
theorem join4 (a b c d : ByteArray) : (⟨(Lib.join ([a, b, c, d].map (·.data.toList)) spc.data.toList).toArray⟩ : ByteArray) = (((((a ++ spc) ++ b) ++ spc) ++ c) ++ spc) ++ d := by
  apply ba_ext
  simp [Lib.join, List.intercalate, spc]
def noC : Cl := ⟨0, ⟨#[]⟩⟩
def cellAt (rows : List (List Cl)) (s i : Nat) : Cl := (rows.getD s []).getD i noC
theorem cellAt_eq {rows : List (List Cl)} {s i : Nat} {row : List Cl} {x : Cl} (h1 : rows[s]? = some row) (h2 : row[i]? = some x) : cellAt rows s i = x := by
  unfold cellAt
  rw [List.getD_eq_getElem?_getD, List.getD_eq_getElem?_getD, h1]
  simp [h2]
/-- The line of each cell, by its number. -/
def lineM (rows : List (List Cl)) (q m : Nat) : ByteArray := lineC ((m / q : Nat) : Int) ((m % q : Nat) : Int) (cellAt rows (m / q) (m % q))
def linesTo (rows : List (List Cl)) (q m : Nat) : List ByteArray := (List.range m).map (lineM rows q)
theorem linesTo_len (rows : List (List Cl)) (q m : Nat) : (linesTo rows q m).length = m := by simp [linesTo]
theorem linesTo_succ (rows : List (List Cl)) (q m : Nat) : linesTo rows q (m + 1) = linesTo rows q m ++ [lineM rows q m] := by simp [linesTo, List.range_succ]
theorem linesTo_get {rows : List (List Cl)} {q m j : Nat} (h : j < m) : (linesTo rows q m)[j]? = some (lineM rows q j) := by simp [linesTo, h]
theorem lineM_at {rows : List (List Cl)} {q s i : Nat} {row : List Cl} {x : Cl} (hi : i < q) (h1 : rows[s]? = some row) (h2 : row[i]? = some x) : lineM rows q (s * q + i) = lineC s i x := by
  unfold lineM
  have e1 : (s * q + i) / q = s := by rw [Nat.mul_comm, Nat.mul_add_div (by omega), Nat.div_eq_of_lt hi, Nat.add_zero]
  have e2 : (s * q + i) % q = i := by rw [Nat.mul_comm, Nat.mul_add_mod, Nat.mod_eq_of_lt hi]
  rw [e1, e2, cellAt_eq h1 h2]
theorem catL_snoc : ∀ (ls : List ByteArray) (l : ByteArray), catL (ls ++ [l]) = catL ls ++ (l ++ eol)
  | [], l => by apply ba_ext; simp [catL]
  | x :: r, l => by
    rw [List.cons_append, catL, catL, catL_snoc r l]
    apply ba_ext; simp
theorem catL_size : ∀ {ls : List ByteArray}, (∀ l ∈ ls, l.size ≤ 60) → (catL ls).size ≤ ls.length * 61
  | [], _ => by decide
  | x :: r, h => by
    have h1 := catL_size (ls := r) fun l hl => h l (by simp [hl])
    have h2 := h x (by simp)
    rw [catL, ByteArray.size_append, ByteArray.size_append, List.length_cons, show eol.size = 1 from rfl]
    omega
theorem no_eol {q : Int} {s : ByteArray} (h : wordErr q s = 0) : (10 : UInt8) ∉ s.data.toList := by
  obtain ⟨_, _, _, h4⟩ := wordErr_zero.1 h
  intro hc
  have := okWord_at h4 hc
  have h10 : digit 10 = -1 := by decide
  rw [h10] at this
  exact absurd this.1 (by decide)
/-- A valid encoder that is not large: its lines. -/
structure Small (q bl inp : Int) (rows : List (List Cl)) : Prop where
  v : EncV q bl inp rows
  n6 : rows.length ≤ 6
  i6 : inp ≤ 6
theorem Small.line {q bl inp : Int} {rows : List (List Cl)} (h : Small q bl inp rows) {s i : Nat} {row : List Cl} {x : Cl} (h1 : rows[s]? = some row) (h2 : row[i]? = some x) : (lineC s i x).size ≤ 60 ∧ (10 : UInt8) ∉ (lineC s i x).data.toList ∧ 0 ≤ x.st ∧ x.st < 10 ∧ s < 10 ∧ i < 10 := by
  have hm := List.mem_of_getElem? h1
  have hx := List.mem_of_getElem? h2
  have hs := (List.getElem?_eq_some_iff.1 h1).1
  have hi := (List.getElem?_eq_some_iff.1 h2).1
  have g1 := h.n6
  have g2 := h.i6
  have g3 := h.v.len row hm
  have g4 := h.v.to0 row hm x hx
  have g5 := h.v.to1 row hm x hx
  have g6 := h.v.sz row hm x hx
  have g7 := h.v.b16
  have g8 := no_eol (h.v.wd row hm x hx)
  obtain ⟨a1, a2⟩ := decB_low (k := (s : Int)) (by omega) (by omega)
  obtain ⟨b1, b2⟩ := decB_low (k := (i : Int)) (by omega) (by omega)
  obtain ⟨c1, c2⟩ := decB_low (k := x.st) g4 (by omega)
  refine ⟨?_, ?_, g4, by omega, by omega, by omega⟩
  · unfold lineC
    simp only [ByteArray.size_append, a1, b1, c1, show spc.size = 1 from rfl]
    omega
  · unfold lineC
    simp only [ByteArray.toList_data_append, List.mem_append, not_or]
    have hsp : (10 : UInt8) ∉ spc.data.toList := by decide
    exact ⟨⟨⟨⟨⟨⟨a2, hsp⟩, b2⟩, hsp⟩, g8⟩, hsp⟩, c2⟩
theorem Small.all {q bl : Int} {I : Nat} {rows : List (List Cl)} (h : Small q bl (I : Int) rows) {m : Nat} (hm : m ≤ rows.length * I) : ∀ l ∈ linesTo rows I m, l.size ≤ 60 ∧ (10 : UInt8) ∉ l.data.toList := by
  intro l hl
  obtain ⟨j, hj, rfl⟩ := List.mem_map.1 hl
  have hj' : j < rows.length * I := Nat.lt_of_lt_of_le (List.mem_range.1 hj) hm
  have hI : 0 < I := by have := h.v.i1; omega
  have hs : j / I < rows.length := (Nat.div_lt_iff_lt_mul hI).2 hj'
  have hi : j % I < I := Nat.mod_lt _ hI
  obtain ⟨row, h1⟩ := some_of_lt hs
  have hrl := h.v.len row (List.mem_of_getElem? h1)
  obtain ⟨x, h2⟩ := some_of_lt (show j % I < row.length by omega)
  have e := lineM_at hi h1 h2
  rw [Nat.div_add_mod' j I] at e
  rw [e]
  have := h.line h1 h2
  exact ⟨this.1, this.2.1⟩
theorem Small.text {q bl : Int} {I : Nat} {rows : List (List Cl)} (h : Small q bl (I : Int) rows) {m : Nat} (hm : m ≤ rows.length * I) : (catL (linesTo rows I m)).size ≤ 2196 := by
  have h1 := catL_size (ls := linesTo rows I m) fun l hl => (h.all hm l hl).1
  rw [linesTo_len] at h1
  have h2 := h.n6
  have h3 := h.i6
  have h4 : rows.length * I ≤ 6 * 6 := Nat.mul_le_mul h2 (by omega)
  omega
end Go.Proofs.YtpgkigjmjognjaaDoor
