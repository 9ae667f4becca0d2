/-
  What the frames of the statements about encoders share: how an encoder that came in is read.
  No condition: these are general lemmas.
-/
import Derived.Test.YtobbinppkjmhhaaDoorProg
import Derived.Test.YtobbinppkjmhhaaDoorEncLaw
import Derived.Test.YtobbinppkjmhhaaDoorFrame
import Derived.Lib.SmallJoins
import Derived.Deep.Slices
namespace Go.Proofs.YtobbinppkjmhhaaDoor
open Go.RowKit Go.Deep Go.ChangeShapes Go.WideShapes
set_option linter.unusedVariables false
set_option maxRecDepth 100000

theorem ccells_at {es : List Cl} {j : Nat} {y : Value} (h : (ccells es)[j]? = some y) : ∃ x, es[j / 2]? = some x ∧ y = (if j % 2 = 0 then .int .i64 x.st else .string x.word) := by
  have hj := lt_of_some h
  rw [ccells_len] at hj
  obtain ⟨x, hx⟩ := some_of_lt (show j / 2 < es.length by omega)
  refine ⟨x, hx, ?_⟩
  obtain ⟨h0, h1⟩ := ccells_get hx
  have hm : j % 2 = 0 ∨ j % 2 = 1 := by omega
  rcases hm with hm | hm
  · rw [show j / 2 * 2 = j by omega, h] at h0
    rw [if_pos hm]
    exact Option.some.inj h0
  · rw [show j / 2 * 2 + 1 = j by omega, h] at h1
    rw [if_neg (by omega)]
    exact Option.some.inj h1
/-- A slice of cells that came in. -/
theorem open_cells {H : Type} {enc : TypeId × Value → H} {W : World} {base : Nat} {spare : Nat → Bool} {held : Bool} {fuel : Nat} {cs : List Value} {x : DataW H × List MemPlace}
    (h : DataW.trod enc Tryd.prog W base spare held fuel 34 cs = some x) :
    ∃ (ao : Option Addr) (l c : Nat) (es : List Cl), cs = [.slice ao l c] ∧ l = es.length ∧ Sl 2 W (.slice ao l c) es.length (ccells es) := by
  rcases open_slice Tryd.underlying34 h with ⟨rfl, _⟩ | ⟨a, len, cap, m, n, D, Pl, rfl, hb, hl, hm, hmm, rfl, hx⟩
  · exact ⟨none, 0, 0, [], rfl, rfl, Sl.nil 2 W⟩
  have hlm : len ≤ m := by rw [hmm]; split <;> omega
  have ce : Tryd.prog.cellsOf 33 = 2 := by kernel_rfl
  have each : ∀ i, i < len → ∃ q : Cl, W.cell? (a.add (i * 2)) = some (.int .i64 q.st) ∧ W.cell? (a.add (i * 2 + 1)) = some (.string q.word) := by
    intro i hi
    obtain ⟨cs', h1, h2⟩ := hx i (by omega)
    rw [ce] at h1
    obtain ⟨_, hlen, hcell⟩ := World.cells?_some h1
    obtain ⟨xs, k, hk, hxy, _, hxl, hf⟩ := DataW.trod_struct Tryd.underlying33 h2
    match xs, hxl, cs', hlen with
    | [y0, y1], _, [v0, v1], _ =>
      have g0 := hf 0 _ rfl
      have g1 := hf 1 _ rfl
      have ci : Tryd.prog.cellsOf 3 = 1 := by kernel_rfl
      have cj : Tryd.prog.cellsOf 9 = 1 := by kernel_rfl
      simp [ci, cj] at g0 g1
      obtain ⟨b0, e0, _, _⟩ := DataW.trod_int Tryd.underlying3 g0
      obtain ⟨b1, e1, _, _⟩ := DataW.trod_string Tryd.underlying9 g1
      have c0 := hcell 0 (by omega)
      have c1 := hcell 1 (by omega)
      rw [Deep.add_add] at c0 c1
      simp only [List.cons.injEq, and_true] at e0 e1
      subst e0 e1
      exact ⟨⟨b0, b1⟩, by simpa using c0, by simpa using c1⟩
  obtain ⟨q, hq⟩ := choose_lt each
  have hlen : ((List.range len).map q).length = len := by simp
  refine ⟨some a, len, cap, (List.range len).map q, rfl, by simp, some a, cap, by rw [hlen], by rw [ccells_len], by rw [hlen]; omega, by unfold maxLen at hm; omega, ?_⟩
  by_cases h0 : len = 0
  · exact .inl (by rw [hlen, h0])
  · refine .inr ?_
    have hs : a.spot = none := by simpa [Addr.add] using World.cell?_spot (hq 0 (by omega)).1
    obtain ⟨b, o, spot⟩ := a
    simp only at hs
    subst hs
    have e : ∀ j, (⟨b, o, none⟩ : Addr).add j = ⟨b, o + j, none⟩ := fun j => by unfold Addr.add; split <;> simp_all
    simp only [e] at hq
    refine ⟨b, o, rfl, fun j y hy => ?_⟩
    obtain ⟨x, hx1, rfl⟩ := ccells_at hy
    have hk : j / 2 < len := by
      have := lt_of_some hx1
      rwa [hlen] at this
    rw [List.getElem?_map, List.getElem?_range hk] at hx1
    obtain rfl := Option.some.inj hx1
    obtain ⟨c0, c1⟩ := hq (j / 2) hk
    have hm2 : j % 2 = 0 ∨ j % 2 = 1 := by omega
    rcases hm2 with hm2 | hm2
    · rw [if_pos hm2, ← c0]; congr 2; omega
    · rw [if_neg (by omega), ← c1]; congr 2; omega
/-- A slice of rows of cells that came in. -/
theorem open_rows {H : Type} {enc : TypeId × Value → H} {W : World} {base : Nat} {spare : Nat → Bool} {held : Bool} {fuel : Nat} {cs : List Value} {x : DataW H × List MemPlace}
    (h : DataW.trod enc Tryd.prog W base spare held fuel 35 cs = some x) :
    ∃ (v : Value) (rows : List (List Cl)), cs = [v] ∧ MC W v rows := by
  rcases open_slice Tryd.underlying35 h with ⟨rfl, _⟩ | ⟨a, len, cap, m, n, D, Pl, rfl, hb, hl, hm, hmm, rfl, hx⟩
  · exact ⟨.slice none 0 0, [], rfl, [], Sl.nil 1 W, fun i row hi => by simp at hi⟩
  have hlm : len ≤ m := by rw [hmm]; split <;> omega
  have ce : Tryd.prog.cellsOf 34 = 1 := by kernel_rfl
  have each : ∀ i, i < len → ∃ q : Value × List Cl, W.cell? (a.add (i * 1)) = some q.1 ∧ Sl 2 W q.1 q.2.length (ccells q.2) := by
    intro i hi
    obtain ⟨cs', h1, h2⟩ := hx i (by omega)
    rw [ce] at h1
    obtain ⟨_, hlen, hcell⟩ := World.cells?_some h1
    obtain ⟨ao, l, c, es, rfl, rfl, hs⟩ := open_cells h2
    have c0 := hcell 0 (by omega)
    rw [Deep.add_add] at c0
    exact ⟨⟨_, es⟩, by simpa using c0, hs⟩
  obtain ⟨q, hq⟩ := choose_lt each
  have hlen : ((List.range len).map fun i => (q i).2).length = len := by simp
  refine ⟨.slice (some a) len cap, (List.range len).map fun i => (q i).2, rfl, (List.range len).map fun i => (q i).1, ⟨some a, cap, by rw [hlen], by simp, by rw [hlen]; omega, by unfold maxLen at hm; omega, ?_⟩, fun i row hi => ?_⟩
  · by_cases h0 : len = 0
    · exact .inl (by rw [hlen, h0])
    · refine .inr ?_
      have hs : a.spot = none := by simpa [Addr.add] using World.cell?_spot (hq 0 (by omega)).1
      obtain ⟨b, o, spot⟩ := a
      simp only at hs
      subst hs
      have e : ∀ j, (⟨b, o, none⟩ : Addr).add j = ⟨b, o + j, none⟩ := fun j => by unfold Addr.add; split <;> simp_all
      refine ⟨b, o, rfl, fun j y hy => ?_⟩
      have hk : j < len := by
        have := lt_of_some hy
        simpa using this
      rw [List.getElem?_map, List.getElem?_range hk] at hy
      obtain rfl := Option.some.inj hy
      have := (hq j hk).1
      rw [e, Nat.mul_one] at this
      exact this
  · have hk : i < len := by
      have := lt_of_some hi
      simpa using this
    rw [List.getElem?_map, List.getElem?_range hk] at hi
    obtain rfl := Option.some.inj hi
    exact ⟨(q i).1, by rw [List.getElem?_map, List.getElem?_range hk]; rfl, (hq i hk).2⟩
/-- An encoder that came in. -/
theorem open_encoder {H : Type} {enc : TypeId × Value → H} {W : World} {base b0 : Nat} {spare : Nat → Bool} {held : Bool} {r : Reach} {v : Value} {d : DataW H} {p : List MemPlace}
    (hv : Value.okWide Tryd.prog W r b0 37 v) (h : DataW.Trod enc Tryd.prog W base spare held 37 v d p) :
    ∃ (q bl inp : Int) (vr : Value) (rows : List (List Cl)), v = .agg #[.int .i64 q, .int .i64 bl, .int .i64 inp, vr] ∧ MC W vr rows := by
  obtain ⟨x, y, z, u, e, g, k, j, n, rfl, _, _, hx, hy, hz, hu⟩ := Joins.open_agg4 Tryd.underlying37 (by kernel_rfl) (by kernel_rfl) hv h
  obtain ⟨a, ex, _, _⟩ := DataW.trod_int Tryd.underlying3 hx
  obtain ⟨b, ey, _, _⟩ := DataW.trod_int Tryd.underlying3 hy
  obtain ⟨c, ez, _, _⟩ := DataW.trod_int Tryd.underlying3 hz
  obtain ⟨vr, rows, eu, hr⟩ := open_rows hu
  simp only [List.cons.injEq, and_true] at ex ey ez eu
  subst ex ey ez eu
  exact ⟨a, b, c, _, rows, rfl, hr⟩
end Go.Proofs.YtobbinppkjmhhaaDoor
