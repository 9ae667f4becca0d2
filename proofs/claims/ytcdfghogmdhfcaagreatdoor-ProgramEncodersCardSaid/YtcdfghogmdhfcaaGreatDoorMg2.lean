/-
  Encoders: cells, rows, why an encoder is not valid, the text of its cells.
  What the frames of the statements share: how an argument that came in is read.
  What the frames of the statements about encoders share: how an encoder that came in is read.
  Conditions: No condition: plain laws, and how rows of cells lie in memory. No condition: these are general lemmas. No condition: these are general lemmas.
-/
import Derived.Test.YtcdfghogmdhfcaaGreatDoorMg0
import Derived.Test.YtcdfghogmdhfcaaGreatDoorCodeLaw
import Derived.ProofKit
import Derived.OpenShut
import Derived.DataShut
import Derived.ShutString
import Derived.ChangeOld
import Derived.Below
import Derived.Test.YtcdfghogmdhfcaaGreatDoorProg
import Derived.Lib.SmallJoins
import Derived.Deep.Slices
namespace Go.Proofs.YtcdfghogmdhfcaaGreatDoor
open Go.RowKit
set_option linter.unusedVariables false

structure Cl where
  st : Int
  word : ByteArray
  deriving Inhabited
def ccells (l : List Cl) : List Value := l.flatMap fun c => [.int .i64 c.st, .string c.word]
theorem ccells_len (l : List Cl) : (ccells l).length = l.length * 2 := by
  induction l with
  | nil => rfl
  | cons x t ih => simp only [ccells, List.flatMap_cons, List.length_append] at *; rw [ih]; simp; omega
theorem ccells_get {l : List Cl} {k : Nat} {x : Cl} (h : l[k]? = some x) : (ccells l)[k * 2]? = some (.int .i64 x.st) ∧ (ccells l)[k * 2 + 1]? = some (.string x.word) := by
  induction l generalizing k with
  | nil => simp at h
  | cons y t ih =>
    have hc : ccells (y :: t) = [.int .i64 y.st, .string y.word] ++ ccells t := by simp [ccells]
    rw [hc]
    cases k with
    | zero => simp at h; subst h; simp
    | succ k =>
      have h2 := ih (by simpa using h)
      rw [List.getElem?_append_right (by simp; omega), List.getElem?_append_right (by simp; omega)]
      simp only [List.length_cons, List.length_nil]
      rw [show (k + 1) * 2 - (0 + 1 + 1) = k * 2 by omega, show (k + 1) * 2 + 1 - (0 + 1 + 1) = k * 2 + 1 by omega]
      exact h2
/-- Rows of cells in memory. -/
def MC (w : World) (v : Value) (rows : List (List Cl)) : Prop :=
  ∃ rs : List Value, Sl 1 w v rows.length rs ∧ ∀ (i : Nat) (row : List Cl), rows[i]? = some row → ∃ r, rs[i]? = some r ∧ Sl 2 w r row.length (ccells row)
theorem MC.below {w w' : World} {v : Value} {rows : List (List Cl)} (h : MC w v rows) (hb : Below w.heap.size w w') : MC w' v rows := by
  obtain ⟨rs, h1, h2⟩ := h
  refine ⟨rs, h1.below hb, fun i row hi => ?_⟩
  obtain ⟨r, hr, hs⟩ := h2 i row hi
  exact ⟨r, hr, hs.below hb⟩
theorem MC.slice {w : World} {v : Value} {rows : List (List Cl)} (h : MC w v rows) : ∃ ao cap, v = .slice ao rows.length cap ∧ rows.length ≤ cap ∧ cap ≤ 9223372036854775807 := by
  obtain ⟨rs, ⟨ao, cap, rfl, h1, h2, h3, _⟩, _⟩ := h
  exact ⟨ao, cap, rfl, h2, h3⟩
/-- One row: its address, and where it lies. -/
theorem MC.row {w : World} {ao : Option Addr} {cap n i : Nat} {rows : List (List Cl)} {row : List Cl} (h : MC w (.slice ao n cap) rows) (hi : rows[i]? = some row) :
    ∃ b o r c, ao = some ⟨b, o, none⟩ ∧ w.cell? ⟨b, o + i, none⟩ = some (.slice r row.length c) ∧ Sl 2 w (.slice r row.length c) row.length (ccells row) := by
  obtain ⟨rs, h1, h2⟩ := h
  obtain ⟨r, hr, hs⟩ := h2 i row hi
  obtain ⟨b, o, hao, hc⟩ := h1.cell hr
  obtain ⟨r', c', rfl, _⟩ := id hs
  exact ⟨b, o, r', c', hao, hc, hs⟩
/-- One cell of a row. -/
theorem Sl.cl {w : World} {r : Option Addr} {c n k : Nat} {row : List Cl} {x : Cl} (h : Sl 2 w (.slice r n c) row.length (ccells row)) (hk : row[k]? = some x) :
    ∃ b o, r = some ⟨b, o, none⟩ ∧ w.cell? ⟨b, o + k * 2, none⟩ = some (.int .i64 x.st) ∧ w.cell? ⟨b, o + k * 2 + 1, none⟩ = some (.string x.word) := by
  obtain ⟨h1, h2⟩ := ccells_get hk
  obtain ⟨b, o, hao, hc⟩ := h.cell h1
  obtain ⟨b', o', hao', hc'⟩ := h.cell h2
  rw [hao] at hao'
  simp only [Option.some.injEq, Addr.mk.injEq, and_true] at hao'
  obtain ⟨rfl, rfl⟩ := hao'
  exact ⟨b, o, hao, hc, by rw [Nat.add_assoc]; exact hc'⟩

/-- Why a cell, some cells, a row, some rows, an encoder is not valid. -/
def cellErr (q bl : Int) (n : Nat) (c : Cl) : Int := if c.st < 0 ∨ (n : Int) ≤ c.st then 25 else if (c.word.size : Int) ≠ bl ∨ wordErr q c.word ≠ 0 then 13 else 0
def cellsErr (q bl : Int) (n : Nat) : List Cl → Int
  | [] => 0
  | c :: r => if cellErr q bl n c ≠ 0 then cellErr q bl n c else cellsErr q bl n r
def rowErr (q bl inp : Int) (n : Nat) (row : List Cl) : Int := if (row.length : Int) ≠ inp then 11 else cellsErr q bl n row
def rowsErr (q bl inp : Int) (n : Nat) : List (List Cl) → Int
  | [] => 0
  | row :: r => if rowErr q bl inp n row ≠ 0 then rowErr q bl inp n row else rowsErr q bl inp n r
def eErr (q bl inp : Int) (rows : List (List Cl)) : Int :=
  if q < 1 ∨ 16 < q then 12 else if bl < 1 ∨ 16 < bl ∨ inp < 1 ∨ 256 < inp then 2 else if rows.length = 0 then 5 else if 64 < rows.length then 4 else rowsErr q bl inp rows.length rows
theorem cellsErr_bad {q bl : Int} {n : Nat} {c : Cl} {r : List Cl} (h : ¬ cellErr q bl n c = 0) : cellsErr q bl n (c :: r) = cellErr q bl n c := by rw [cellsErr, if_pos h]
theorem cellsErr_good {q bl : Int} {n : Nat} {c : Cl} {r : List Cl} (h : cellErr q bl n c = 0) : cellsErr q bl n (c :: r) = cellsErr q bl n r := by rw [cellsErr, if_neg (by simp [h])]
theorem rowsErr_bad {q bl inp : Int} {n : Nat} {c : List Cl} {r : List (List Cl)} (h : ¬ rowErr q bl inp n c = 0) : rowsErr q bl inp n (c :: r) = rowErr q bl inp n c := by rw [rowsErr, if_pos h]
theorem rowsErr_good {q bl inp : Int} {n : Nat} {c : List Cl} {r : List (List Cl)} (h : rowErr q bl inp n c = 0) : rowsErr q bl inp n (c :: r) = rowsErr q bl inp n r := by rw [rowsErr, if_neg (by simp [h])]
theorem cellsErr_zero {q bl : Int} {n : Nat} : ∀ {l : List Cl}, cellsErr q bl n l = 0 → ∀ c ∈ l, cellErr q bl n c = 0
  | [], _, c, h => by cases h
  | x :: l, h, c, hc => by
    by_cases hx : cellErr q bl n x = 0
    · rw [cellsErr_good hx] at h
      rcases List.mem_cons.1 hc with rfl | hc
      · exact hx
      · exact cellsErr_zero h c hc
    · rw [cellsErr_bad hx] at h; exact absurd h hx
theorem rowsErr_zero {q bl inp : Int} {n : Nat} : ∀ {l : List (List Cl)}, rowsErr q bl inp n l = 0 → ∀ r ∈ l, rowErr q bl inp n r = 0
  | [], _, c, h => by cases h
  | x :: l, h, c, hc => by
    by_cases hx : rowErr q bl inp n x = 0
    · rw [rowsErr_good hx] at h
      rcases List.mem_cons.1 hc with rfl | hc
      · exact hx
      · exact rowsErr_zero h c hc
    · rw [rowsErr_bad hx] at h; exact absurd h hx
/-- A valid encoder. -/
structure EncV (q bl inp : Int) (rows : List (List Cl)) : Prop where
  q1 : 1 ≤ q
  q16 : q ≤ 16
  b1 : 1 ≤ bl
  b16 : bl ≤ 16
  i1 : 1 ≤ inp
  i256 : inp ≤ 256
  r1 : 1 ≤ rows.length
  r64 : rows.length ≤ 64
  len : ∀ r ∈ rows, (r.length : Int) = inp
  to0 : ∀ r ∈ rows, ∀ c ∈ r, 0 ≤ c.st
  to1 : ∀ r ∈ rows, ∀ c ∈ r, c.st < rows.length
  sz : ∀ r ∈ rows, ∀ c ∈ r, (c.word.size : Int) = bl
  wd : ∀ r ∈ rows, ∀ c ∈ r, wordErr q c.word = 0
theorem eErr_zero {q bl inp : Int} {rows : List (List Cl)} (h : eErr q bl inp rows = 0) : EncV q bl inp rows := by
  unfold eErr at h
  split at h
  · cases h
  rename_i h1
  split at h
  · cases h
  rename_i h2
  split at h
  · cases h
  rename_i h3
  split at h
  · cases h
  rename_i h4
  have hr : ∀ r ∈ rows, (r.length : Int) = inp ∧ ∀ c ∈ r, cellErr q bl rows.length c = 0 := by
    intro r hr
    have h5 := rowsErr_zero h r hr
    unfold rowErr at h5
    split at h5
    · cases h5
    · rename_i h6
      exact ⟨by omega, cellsErr_zero h5⟩
  have hc : ∀ r ∈ rows, ∀ c ∈ r, 0 ≤ c.st ∧ c.st < rows.length ∧ (c.word.size : Int) = bl ∧ wordErr q c.word = 0 := by
    intro r hr' c hc
    have h5 := (hr r hr').2 c hc
    unfold cellErr at h5
    split at h5
    · cases h5
    · rename_i h6
      split at h5
      · cases h5
      · rename_i h7
        have h8 : ¬ (c.word.size : Int) ≠ bl := fun e => h7 (.inl e)
        have h9 : ¬ wordErr q c.word ≠ 0 := fun e => h7 (.inr e)
        exact ⟨by omega, by omega, Classical.not_not.1 h8, Classical.not_not.1 h9⟩
  exact ⟨by omega, by omega, by omega, by omega, by omega, by omega, by omega, by omega, fun r h => (hr r h).1, fun r h c h' => (hc r h c h').1, fun r h c h' => (hc r h c h').2.1, fun r h c h' => (hc r h c h').2.2.1, fun r h c h' => (hc r h c h').2.2.2⟩
end Go.Proofs.YtcdfghogmdhfcaaGreatDoor

namespace Go.Proofs.YtcdfghogmdhfcaaGreatDoor
open Go.RowKit

/-- A slice of integers that came in: it reads as l, and each number fits its kind. -/
def IsInts (k : IntKind) (w : World) (v : Value) (l : List Int) : Prop := Sl 1 w v l.length (l.map (.int k)) ∧ ∀ x ∈ l, k.min ≤ x ∧ x ≤ k.max

theorem isInts_nil (k : IntKind) (w : World) : IsInts k w (.slice none 0 0) [] := ⟨Sl.nil 1 w, by simp⟩
theorem isInts_row {k : IntKind} {w : World} {x : Addr} {len cap : Nat} {zs : List Int} (h1 : len ≤ cap) (h2 : cap ≤ maxLen) (h3 : len ≤ zs.length) (h4 : ∀ i, i < zs.length → w.cell? (x.add i) = some (.int k (zs.getD i 0))) (h5 : ∀ n ∈ zs, (Lit.int k n).wf = true) :
    IsInts k w (.slice (some x) len cap) (zs.take len) := by
  have hl : (zs.take len).length = len := by simp; omega
  refine ⟨⟨some x, cap, by rw [hl], by simp, by omega, by unfold maxLen at h2; omega, ?_⟩, fun n hn => (Lit.wf_int_iff k n).1 (h5 n (List.mem_of_mem_take hn))⟩
  by_cases h0 : len = 0
  · exact .inl (by rw [hl, h0])
  · refine .inr ?_
    have hs : x.spot = none := by simpa [Addr.add] using World.cell?_spot (h4 0 (by omega))
    obtain ⟨b, o, spot⟩ := x
    simp only at hs
    subst hs
    refine ⟨b, o, rfl, fun j y hy => ?_⟩
    have hj := lt_of_some hy
    rw [List.length_map, hl] at hj
    have := h4 j (by omega)
    have e : (⟨b, o, none⟩ : Addr).add j = ⟨b, o + j, none⟩ := by unfold Addr.add; split <;> simp_all
    rw [e] at this
    rw [this]
    rw [List.getElem?_map, List.getElem?_take, if_pos hj, List.getElem?_eq_getElem (by omega), Option.map_some] at hy
    rw [← hy, List.getD_eq_getElem?_getD, List.getElem?_eq_getElem (by omega), Option.getD_some]

/-- A slice of strings that came in. -/
def IsStrs (w : World) (v : Value) (l : List ByteArray) : Prop := Sl 1 w v l.length (strs l) ∧ ∀ s ∈ l, s.size ≤ maxLen
theorem isStrs_nil (w : World) : IsStrs w (.slice none 0 0) [] := ⟨Sl.nil 1 w, by simp⟩
theorem isStrs_row {w : World} {x : Addr} {len cap : Nat} {zs : List ByteArray} (h1 : len ≤ cap) (h2 : cap ≤ maxLen) (h3 : len ≤ zs.length) (h4 : ∀ i, i < zs.length → w.cell? (x.add i) = some (.string (zs.getD i ByteArray.empty))) (h5 : ∀ s ∈ zs, s.size ≤ maxLen) :
    IsStrs w (.slice (some x) len cap) (zs.take len) := by
  have hl : (zs.take len).length = len := by simp; omega
  refine ⟨⟨some x, cap, by rw [hl], by simp [strs], by omega, by unfold maxLen at h2; omega, ?_⟩, fun s hs => h5 s (List.mem_of_mem_take hs)⟩
  by_cases h0 : len = 0
  · exact .inl (by rw [hl, h0])
  · refine .inr ?_
    have hs : x.spot = none := by simpa [Addr.add] using World.cell?_spot (h4 0 (by omega))
    obtain ⟨b, o, spot⟩ := x
    simp only at hs
    subst hs
    refine ⟨b, o, rfl, fun j y hy => ?_⟩
    have hj := lt_of_some hy
    rw [strs_len, hl] at hj
    have := h4 j (by omega)
    have e : (⟨b, o, none⟩ : Addr).add j = ⟨b, o + j, none⟩ := by unfold Addr.add; split <;> simp_all
    rw [e] at this
    rw [this]
    rw [strs, List.getElem?_map, List.getElem?_take, if_pos hj, List.getElem?_eq_getElem (by omega), Option.map_some] at hy
    rw [← hy, List.getD_eq_getElem?_getD, List.getElem?_eq_getElem (by omega), Option.getD_some]
end Go.Proofs.YtcdfghogmdhfcaaGreatDoor

namespace Go.Proofs.YtcdfghogmdhfcaaGreatDoor
open Go.RowKit Go.Deep Go.ChangeShapes Go.WideShapes
set_option linter.unusedVariables false
set_option maxRecDepth 100000

theorem ccells_at {es : List Cl} {j : Nat} {y : Value} (h : (ccells es)[j]? = some y) : ∃ x, es[j / 2]? = some x ∧ y = (if j % 2 = 0 then .int .i64 x.st else .string x.word) := by
  have hj := lt_of_some h
  rw [ccells_len] at hj
  obtain ⟨x, hx⟩ := some_of_lt (show j / 2 < es.length by omega)
  refine ⟨x, hx, ?_⟩
  obtain ⟨h0, h1⟩ := ccells_get hx
  have hm : j % 2 = 0 ∨ j % 2 = 1 := by omega
  rcases hm with hm | hm
  · rw [show j / 2 * 2 = j by omega, h] at h0
    rw [if_pos hm]
    exact Option.some.inj h0
  · rw [show j / 2 * 2 + 1 = j by omega, h] at h1
    rw [if_neg (by omega)]
    exact Option.some.inj h1
/-- A slice of cells that came in. -/
theorem open_cells {H : Type} {enc : TypeId × Value → H} {W : World} {base : Nat} {spare : Nat → Bool} {held : Bool} {fuel : Nat} {cs : List Value} {x : DataW H × List MemPlace}
    (h : DataW.trod enc Tryz.prog W base spare held fuel 43 cs = some x) :
    ∃ (ao : Option Addr) (l c : Nat) (es : List Cl), cs = [.slice ao l c] ∧ l = es.length ∧ Sl 2 W (.slice ao l c) es.length (ccells es) := by
  rcases open_slice Tryz.underlying43 h with ⟨rfl, _⟩ | ⟨a, len, cap, m, n, D, Pl, rfl, hb, hl, hm, hmm, rfl, hx⟩
  · exact ⟨none, 0, 0, [], rfl, rfl, Sl.nil 2 W⟩
  have hlm : len ≤ m := by rw [hmm]; split <;> omega
  have ce : Tryz.prog.cellsOf 45 = 2 := by kernel_rfl
  have each : ∀ i, i < len → ∃ q : Cl, W.cell? (a.add (i * 2)) = some (.int .i64 q.st) ∧ W.cell? (a.add (i * 2 + 1)) = some (.string q.word) := by
    intro i hi
    obtain ⟨cs', h1, h2⟩ := hx i (by omega)
    rw [ce] at h1
    obtain ⟨_, hlen, hcell⟩ := World.cells?_some h1
    obtain ⟨xs, k, hk, hxy, _, hxl, hf⟩ := DataW.trod_struct Tryz.underlying45 h2
    match xs, hxl, cs', hlen with
    | [y0, y1], _, [v0, v1], _ =>
      have g0 := hf 0 _ rfl
      have g1 := hf 1 _ rfl
      have ci : Tryz.prog.cellsOf 3 = 1 := by kernel_rfl
      have cj : Tryz.prog.cellsOf 9 = 1 := by kernel_rfl
      simp [ci, cj] at g0 g1
      obtain ⟨b0, e0, _, _⟩ := DataW.trod_int Tryz.underlying3 g0
      obtain ⟨b1, e1, _, _⟩ := DataW.trod_string Tryz.underlying9 g1
      have c0 := hcell 0 (by omega)
      have c1 := hcell 1 (by omega)
      rw [Deep.add_add] at c0 c1
      simp only [List.cons.injEq, and_true] at e0 e1
      subst e0 e1
      exact ⟨⟨b0, b1⟩, by simpa using c0, by simpa using c1⟩
  obtain ⟨q, hq⟩ := choose_lt each
  have hlen : ((List.range len).map q).length = len := by simp
  refine ⟨some a, len, cap, (List.range len).map q, rfl, by simp, some a, cap, by rw [hlen], by rw [ccells_len], by rw [hlen]; omega, by unfold maxLen at hm; omega, ?_⟩
  by_cases h0 : len = 0
  · exact .inl (by rw [hlen, h0])
  · refine .inr ?_
    have hs : a.spot = none := by simpa [Addr.add] using World.cell?_spot (hq 0 (by omega)).1
    obtain ⟨b, o, spot⟩ := a
    simp only at hs
    subst hs
    have e : ∀ j, (⟨b, o, none⟩ : Addr).add j = ⟨b, o + j, none⟩ := fun j => by unfold Addr.add; split <;> simp_all
    simp only [e] at hq
    refine ⟨b, o, rfl, fun j y hy => ?_⟩
    obtain ⟨x, hx1, rfl⟩ := ccells_at hy
    have hk : j / 2 < len := by
      have := lt_of_some hx1
      rwa [hlen] at this
    rw [List.getElem?_map, List.getElem?_range hk] at hx1
    obtain rfl := Option.some.inj hx1
    obtain ⟨c0, c1⟩ := hq (j / 2) hk
    have hm2 : j % 2 = 0 ∨ j % 2 = 1 := by omega
    rcases hm2 with hm2 | hm2
    · rw [if_pos hm2, ← c0]; congr 2; omega
    · rw [if_neg (by omega), ← c1]; congr 2; omega
/-- A slice of rows of cells that came in. -/
theorem open_rows {H : Type} {enc : TypeId × Value → H} {W : World} {base : Nat} {spare : Nat → Bool} {held : Bool} {fuel : Nat} {cs : List Value} {x : DataW H × List MemPlace}
    (h : DataW.trod enc Tryz.prog W base spare held fuel 22 cs = some x) :
    ∃ (v : Value) (rows : List (List Cl)), cs = [v] ∧ MC W v rows := by
  rcases open_slice Tryz.underlying22 h with ⟨rfl, _⟩ | ⟨a, len, cap, m, n, D, Pl, rfl, hb, hl, hm, hmm, rfl, hx⟩
  · exact ⟨.slice none 0 0, [], rfl, [], Sl.nil 1 W, fun i row hi => by simp at hi⟩
  have hlm : len ≤ m := by rw [hmm]; split <;> omega
  have ce : Tryz.prog.cellsOf 43 = 1 := by kernel_rfl
  have each : ∀ i, i < len → ∃ q : Value × List Cl, W.cell? (a.add (i * 1)) = some q.1 ∧ Sl 2 W q.1 q.2.length (ccells q.2) := by
    intro i hi
    obtain ⟨cs', h1, h2⟩ := hx i (by omega)
    rw [ce] at h1
    obtain ⟨_, hlen, hcell⟩ := World.cells?_some h1
    obtain ⟨ao, l, c, es, rfl, rfl, hs⟩ := open_cells h2
    have c0 := hcell 0 (by omega)
    rw [Deep.add_add] at c0
    exact ⟨⟨_, es⟩, by simpa using c0, hs⟩
  obtain ⟨q, hq⟩ := choose_lt each
  have hlen : ((List.range len).map fun i => (q i).2).length = len := by simp
  refine ⟨.slice (some a) len cap, (List.range len).map fun i => (q i).2, rfl, (List.range len).map fun i => (q i).1, ⟨some a, cap, by rw [hlen], by simp, by rw [hlen]; omega, by unfold maxLen at hm; omega, ?_⟩, fun i row hi => ?_⟩
  · by_cases h0 : len = 0
    · exact .inl (by rw [hlen, h0])
    · refine .inr ?_
      have hs : a.spot = none := by simpa [Addr.add] using World.cell?_spot (hq 0 (by omega)).1
      obtain ⟨b, o, spot⟩ := a
      simp only at hs
      subst hs
      have e : ∀ j, (⟨b, o, none⟩ : Addr).add j = ⟨b, o + j, none⟩ := fun j => by unfold Addr.add; split <;> simp_all
      refine ⟨b, o, rfl, fun j y hy => ?_⟩
      have hk : j < len := by
        have := lt_of_some hy
        simpa using this
      rw [List.getElem?_map, List.getElem?_range hk] at hy
      obtain rfl := Option.some.inj hy
      have := (hq j hk).1
      rw [e, Nat.mul_one] at this
      exact this
  · have hk : i < len := by
      have := lt_of_some hi
      simpa using this
    rw [List.getElem?_map, List.getElem?_range hk] at hi
    obtain rfl := Option.some.inj hi
    exact ⟨(q i).1, by rw [List.getElem?_map, List.getElem?_range hk]; rfl, (hq i hk).2⟩
/-- An encoder that came in. -/
theorem open_encoder {H : Type} {enc : TypeId × Value → H} {W : World} {base b0 : Nat} {spare : Nat → Bool} {held : Bool} {r : Reach} {v : Value} {d : DataW H} {p : List MemPlace}
    (hv : Value.okWide Tryz.prog W r b0 24 v) (h : DataW.Trod enc Tryz.prog W base spare held 24 v d p) :
    ∃ (q bl inp : Int) (vr : Value) (rows : List (List Cl)), v = .agg #[.int .i64 q, .int .i64 bl, .int .i64 inp, vr] ∧ MC W vr rows := by
  obtain ⟨x, y, z, u, e, g, k, j, n, rfl, _, _, hx, hy, hz, hu⟩ := Joins.open_agg4 Tryz.underlying24 (by kernel_rfl) (by kernel_rfl) hv h
  obtain ⟨a, ex, _, _⟩ := DataW.trod_int Tryz.underlying3 hx
  obtain ⟨b, ey, _, _⟩ := DataW.trod_int Tryz.underlying3 hy
  obtain ⟨c, ez, _, _⟩ := DataW.trod_int Tryz.underlying3 hz
  obtain ⟨vr, rows, eu, hr⟩ := open_rows hu
  simp only [List.cons.injEq, and_true] at ex ey ez eu
  subst ex ey ez eu
  exact ⟨a, b, c, _, rows, rfl, hr⟩
end Go.Proofs.YtcdfghogmdhfcaaGreatDoor
