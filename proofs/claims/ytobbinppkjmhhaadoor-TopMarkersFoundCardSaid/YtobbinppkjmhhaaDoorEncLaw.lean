/-
  Encoders: cells, rows, why an encoder is not valid, the text of its cells.
  No condition: plain laws, and how rows of cells lie in memory.
-/
import Derived.Test.YtobbinppkjmhhaaDoorAid
import Derived.Test.YtobbinppkjmhhaaDoorCodeLaw
namespace Go.Proofs.YtobbinppkjmhhaaDoor
open Go.RowKit
set_option linter.unusedVariables false

structure Cl where
  st : Int
  word : ByteArray
  deriving Inhabited
def ccells (l : List Cl) : List Value := l.flatMap fun c => [.int .i64 c.st, .string c.word]
theorem ccells_len (l : List Cl) : (ccells l).length = l.length * 2 := by
  induction l with
  | nil => rfl
  | cons x t ih => simp only [ccells, List.flatMap_cons, List.length_append] at *; rw [ih]; simp; omega
theorem ccells_get {l : List Cl} {k : Nat} {x : Cl} (h : l[k]? = some x) : (ccells l)[k * 2]? = some (.int .i64 x.st) ∧ (ccells l)[k * 2 + 1]? = some (.string x.word) := by
  induction l generalizing k with
  | nil => simp at h
  | cons y t ih =>
    have hc : ccells (y :: t) = [.int .i64 y.st, .string y.word] ++ ccells t := by simp [ccells]
    rw [hc]
    cases k with
    | zero => simp at h; subst h; simp
    | succ k =>
      have h2 := ih (by simpa using h)
      rw [List.getElem?_append_right (by simp; omega), List.getElem?_append_right (by simp; omega)]
      simp only [List.length_cons, List.length_nil]
      rw [show (k + 1) * 2 - (0 + 1 + 1) = k * 2 by omega, show (k + 1) * 2 + 1 - (0 + 1 + 1) = k * 2 + 1 by omega]
      exact h2
/-- Rows of cells in memory. -/
def MC (w : World) (v : Value) (rows : List (List Cl)) : Prop :=
  ∃ rs : List Value, Sl 1 w v rows.length rs ∧ ∀ (i : Nat) (row : List Cl), rows[i]? = some row → ∃ r, rs[i]? = some r ∧ Sl 2 w r row.length (ccells row)
theorem MC.below {w w' : World} {v : Value} {rows : List (List Cl)} (h : MC w v rows) (hb : Below w.heap.size w w') : MC w' v rows := by
  obtain ⟨rs, h1, h2⟩ := h
  refine ⟨rs, h1.below hb, fun i row hi => ?_⟩
  obtain ⟨r, hr, hs⟩ := h2 i row hi
  exact ⟨r, hr, hs.below hb⟩
theorem MC.slice {w : World} {v : Value} {rows : List (List Cl)} (h : MC w v rows) : ∃ ao cap, v = .slice ao rows.length cap ∧ rows.length ≤ cap ∧ cap ≤ 9223372036854775807 := by
  obtain ⟨rs, ⟨ao, cap, rfl, h1, h2, h3, _⟩, _⟩ := h
  exact ⟨ao, cap, rfl, h2, h3⟩
/-- One row: its address, and where it lies. -/
theorem MC.row {w : World} {ao : Option Addr} {cap n i : Nat} {rows : List (List Cl)} {row : List Cl} (h : MC w (.slice ao n cap) rows) (hi : rows[i]? = some row) :
    ∃ b o r c, ao = some ⟨b, o, none⟩ ∧ w.cell? ⟨b, o + i, none⟩ = some (.slice r row.length c) ∧ Sl 2 w (.slice r row.length c) row.length (ccells row) := by
  obtain ⟨rs, h1, h2⟩ := h
  obtain ⟨r, hr, hs⟩ := h2 i row hi
  obtain ⟨b, o, hao, hc⟩ := h1.cell hr
  obtain ⟨r', c', rfl, _⟩ := id hs
  exact ⟨b, o, r', c', hao, hc, hs⟩
/-- One cell of a row. -/
theorem Sl.cl {w : World} {r : Option Addr} {c n k : Nat} {row : List Cl} {x : Cl} (h : Sl 2 w (.slice r n c) row.length (ccells row)) (hk : row[k]? = some x) :
    ∃ b o, r = some ⟨b, o, none⟩ ∧ w.cell? ⟨b, o + k * 2, none⟩ = some (.int .i64 x.st) ∧ w.cell? ⟨b, o + k * 2 + 1, none⟩ = some (.string x.word) := by
  obtain ⟨h1, h2⟩ := ccells_get hk
  obtain ⟨b, o, hao, hc⟩ := h.cell h1
  obtain ⟨b', o', hao', hc'⟩ := h.cell h2
  rw [hao] at hao'
  simp only [Option.some.injEq, Addr.mk.injEq, and_true] at hao'
  obtain ⟨rfl, rfl⟩ := hao'
  exact ⟨b, o, hao, hc, by rw [Nat.add_assoc]; exact hc'⟩

/-- Why a cell, some cells, a row, some rows, an encoder is not valid. -/
def cellErr (q bl : Int) (n : Nat) (c : Cl) : Int := if c.st < 0 ∨ (n : Int) ≤ c.st then 25 else if (c.word.size : Int) ≠ bl ∨ wordErr q c.word ≠ 0 then 13 else 0
def cellsErr (q bl : Int) (n : Nat) : List Cl → Int
  | [] => 0
  | c :: r => if cellErr q bl n c ≠ 0 then cellErr q bl n c else cellsErr q bl n r
def rowErr (q bl inp : Int) (n : Nat) (row : List Cl) : Int := if (row.length : Int) ≠ inp then 11 else cellsErr q bl n row
def rowsErr (q bl inp : Int) (n : Nat) : List (List Cl) → Int
  | [] => 0
  | row :: r => if rowErr q bl inp n row ≠ 0 then rowErr q bl inp n row else rowsErr q bl inp n r
def eErr (q bl inp : Int) (rows : List (List Cl)) : Int :=
  if q < 1 ∨ 16 < q then 12 else if bl < 1 ∨ 16 < bl ∨ inp < 1 ∨ 256 < inp then 2 else if rows.length = 0 then 5 else if 64 < rows.length then 4 else rowsErr q bl inp rows.length rows
theorem cellsErr_bad {q bl : Int} {n : Nat} {c : Cl} {r : List Cl} (h : ¬ cellErr q bl n c = 0) : cellsErr q bl n (c :: r) = cellErr q bl n c := by rw [cellsErr, if_pos h]
theorem cellsErr_good {q bl : Int} {n : Nat} {c : Cl} {r : List Cl} (h : cellErr q bl n c = 0) : cellsErr q bl n (c :: r) = cellsErr q bl n r := by rw [cellsErr, if_neg (by simp [h])]
theorem rowsErr_bad {q bl inp : Int} {n : Nat} {c : List Cl} {r : List (List Cl)} (h : ¬ rowErr q bl inp n c = 0) : rowsErr q bl inp n (c :: r) = rowErr q bl inp n c := by rw [rowsErr, if_pos h]
theorem rowsErr_good {q bl inp : Int} {n : Nat} {c : List Cl} {r : List (List Cl)} (h : rowErr q bl inp n c = 0) : rowsErr q bl inp n (c :: r) = rowsErr q bl inp n r := by rw [rowsErr, if_neg (by simp [h])]
theorem cellsErr_zero {q bl : Int} {n : Nat} : ∀ {l : List Cl}, cellsErr q bl n l = 0 → ∀ c ∈ l, cellErr q bl n c = 0
  | [], _, c, h => by cases h
  | x :: l, h, c, hc => by
    by_cases hx : cellErr q bl n x = 0
    · rw [cellsErr_good hx] at h
      rcases List.mem_cons.1 hc with rfl | hc
      · exact hx
      · exact cellsErr_zero h c hc
    · rw [cellsErr_bad hx] at h; exact absurd h hx
theorem rowsErr_zero {q bl inp : Int} {n : Nat} : ∀ {l : List (List Cl)}, rowsErr q bl inp n l = 0 → ∀ r ∈ l, rowErr q bl inp n r = 0
  | [], _, c, h => by cases h
  | x :: l, h, c, hc => by
    by_cases hx : rowErr q bl inp n x = 0
    · rw [rowsErr_good hx] at h
      rcases List.mem_cons.1 hc with rfl | hc
      · exact hx
      · exact rowsErr_zero h c hc
    · rw [rowsErr_bad hx] at h; exact absurd h hx
/-- A valid encoder. -/
structure EncV (q bl inp : Int) (rows : List (List Cl)) : Prop where
  q1 : 1 ≤ q
  q16 : q ≤ 16
  b1 : 1 ≤ bl
  b16 : bl ≤ 16
  i1 : 1 ≤ inp
  i256 : inp ≤ 256
  r1 : 1 ≤ rows.length
  r64 : rows.length ≤ 64
  len : ∀ r ∈ rows, (r.length : Int) = inp
  to0 : ∀ r ∈ rows, ∀ c ∈ r, 0 ≤ c.st
  to1 : ∀ r ∈ rows, ∀ c ∈ r, c.st < rows.length
  sz : ∀ r ∈ rows, ∀ c ∈ r, (c.word.size : Int) = bl
  wd : ∀ r ∈ rows, ∀ c ∈ r, wordErr q c.word = 0
theorem eErr_zero {q bl inp : Int} {rows : List (List Cl)} (h : eErr q bl inp rows = 0) : EncV q bl inp rows := by
  unfold eErr at h
  split at h
  · cases h
  rename_i h1
  split at h
  · cases h
  rename_i h2
  split at h
  · cases h
  rename_i h3
  split at h
  · cases h
  rename_i h4
  have hr : ∀ r ∈ rows, (r.length : Int) = inp ∧ ∀ c ∈ r, cellErr q bl rows.length c = 0 := by
    intro r hr
    have h5 := rowsErr_zero h r hr
    unfold rowErr at h5
    split at h5
    · cases h5
    · rename_i h6
      exact ⟨by omega, cellsErr_zero h5⟩
  have hc : ∀ r ∈ rows, ∀ c ∈ r, 0 ≤ c.st ∧ c.st < rows.length ∧ (c.word.size : Int) = bl ∧ wordErr q c.word = 0 := by
    intro r hr' c hc
    have h5 := (hr r hr').2 c hc
    unfold cellErr at h5
    split at h5
    · cases h5
    · rename_i h6
      split at h5
      · cases h5
      · rename_i h7
        have h8 : ¬ (c.word.size : Int) ≠ bl := fun e => h7 (.inl e)
        have h9 : ¬ wordErr q c.word ≠ 0 := fun e => h7 (.inr e)
        exact ⟨by omega, by omega, Classical.not_not.1 h8, Classical.not_not.1 h9⟩
  exact ⟨by omega, by omega, by omega, by omega, by omega, by omega, by omega, by omega, fun r h => (hr r h).1, fun r h c h' => (hc r h c h').1, fun r h c h' => (hc r h c h').2.1, fun r h c h' => (hc r h c h').2.2.1, fun r h c h' => (hc r h c h').2.2.2⟩
end Go.Proofs.YtobbinppkjmhhaaDoor
