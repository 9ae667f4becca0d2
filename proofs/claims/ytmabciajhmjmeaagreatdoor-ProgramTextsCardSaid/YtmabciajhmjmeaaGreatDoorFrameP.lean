/-
  What the frames of the statements about programs share: how a program that came in is read.
  No condition: these are general lemmas.
-/
import Derived.Test.YtmabciajhmjmeaaGreatDoorProg
import Derived.Test.YtmabciajhmjmeaaGreatDoorInsLaw
import Derived.Test.YtmabciajhmjmeaaGreatDoorFrame
import Derived.Lib.SmallJoins
import Derived.Deep.Slices
namespace Go.Proofs.YtmabciajhmjmeaaGreatDoor
open Go.RowKit Go.Deep Go.ChangeShapes Go.WideShapes
set_option linter.unusedVariables false
set_option maxRecDepth 100000

theorem icells_at {es : List Ins} {j : Nat} {y : Value} (h : (icells es)[j]? = some y) : ∃ x, es[j / 3]? = some x ∧ y = (if j % 3 = 0 then .int .i64 x.op else if j % 3 = 1 then .int .i64 x.a else .int .i64 x.b) := by
  have hj := lt_of_some h
  rw [icells_len] at hj
  obtain ⟨x, hx⟩ := some_of_lt (show j / 3 < es.length by omega)
  refine ⟨x, hx, ?_⟩
  obtain ⟨h0, h1, h2⟩ := icells_get hx
  have hm : j % 3 = 0 ∨ j % 3 = 1 ∨ j % 3 = 2 := by omega
  rcases hm with hm | hm | hm
  · rw [show j / 3 * 3 = j by omega, h] at h0
    rw [if_pos hm]
    exact Option.some.inj h0
  · rw [show j / 3 * 3 + 1 = j by omega, h] at h1
    rw [if_neg (by omega), if_pos hm]
    exact Option.some.inj h1
  · rw [show j / 3 * 3 + 2 = j by omega, h] at h2
    rw [if_neg (by omega), if_neg (by omega)]
    exact Option.some.inj h2
/-- A slice of instructions that came in. -/
theorem open_instrs {H : Type} {enc : TypeId × Value → H} {W : World} {base : Nat} {spare : Nat → Bool} {held : Bool} {fuel : Nat} {cs : List Value} {x : DataW H × List MemPlace}
    (h : DataW.trod enc Tryz.prog W base spare held fuel 22 cs = some x) :
    ∃ (ao : Option Addr) (l c : Nat) (es : List Ins), cs = [.slice ao l c] ∧ l = es.length ∧ Sl 3 W (.slice ao l c) es.length (icells es) := by
  rcases open_slice Tryz.underlying22 h with ⟨rfl, _⟩ | ⟨a, len, cap, m, n, D, Pl, rfl, hb, hl, hm, hmm, rfl, hx⟩
  · exact ⟨none, 0, 0, [], rfl, rfl, Sl.nil 3 W⟩
  have hlm : len ≤ m := by rw [hmm]; split <;> omega
  have ce : Tryz.prog.cellsOf 36 = 3 := by kernel_rfl
  have each : ∀ i, i < len → ∃ q : Ins, W.cell? (a.add (i * 3)) = some (.int .i64 q.op) ∧ W.cell? (a.add (i * 3 + 1)) = some (.int .i64 q.a) ∧ W.cell? (a.add (i * 3 + 2)) = some (.int .i64 q.b) := by
    intro i hi
    obtain ⟨cs', h1, h2⟩ := hx i (by omega)
    rw [ce] at h1
    obtain ⟨_, hlen, hcell⟩ := World.cells?_some h1
    obtain ⟨xs, k, hk, hxy, _, hxl, hf⟩ := DataW.trod_struct Tryz.underlying36 h2
    match xs, hxl, cs', hlen with
    | [y0, y1, y2], _, [v0, v1, v2], _ =>
      have g0 := hf 0 _ rfl
      have g1 := hf 1 _ rfl
      have g2 := hf 2 _ rfl
      have ci : Tryz.prog.cellsOf 3 = 1 := by kernel_rfl
      simp [ci] at g0 g1 g2
      obtain ⟨b0, e0, _, _⟩ := DataW.trod_int Tryz.underlying3 g0
      obtain ⟨b1, e1, _, _⟩ := DataW.trod_int Tryz.underlying3 g1
      obtain ⟨b2, e2, _, _⟩ := DataW.trod_int Tryz.underlying3 g2
      have c0 := hcell 0 (by omega)
      have c1 := hcell 1 (by omega)
      have c2 := hcell 2 (by omega)
      rw [Deep.add_add] at c0 c1 c2
      simp only [List.cons.injEq, and_true] at e0 e1 e2
      subst e0 e1 e2
      exact ⟨⟨b0, b1, b2⟩, by simpa using c0, by simpa using c1, by simpa using c2⟩
  obtain ⟨q, hq⟩ := choose_lt each
  have hlen : ((List.range len).map q).length = len := by simp
  refine ⟨some a, len, cap, (List.range len).map q, rfl, by simp, some a, cap, by rw [hlen], by rw [icells_len], by rw [hlen]; omega, by unfold maxLen at hm; omega, ?_⟩
  by_cases h0 : len = 0
  · exact .inl (by rw [hlen, h0])
  · refine .inr ?_
    have hs : a.spot = none := by simpa [Addr.add] using World.cell?_spot (hq 0 (by omega)).1
    obtain ⟨b, o, spot⟩ := a
    simp only at hs
    subst hs
    have e : ∀ j, (⟨b, o, none⟩ : Addr).add j = ⟨b, o + j, none⟩ := fun j => by unfold Addr.add; split <;> simp_all
    simp only [e] at hq
    refine ⟨b, o, rfl, fun j y hy => ?_⟩
    obtain ⟨x, hx1, rfl⟩ := icells_at hy
    have hk : j / 3 < len := by
      have := lt_of_some hx1
      rwa [hlen] at this
    rw [List.getElem?_map, List.getElem?_range hk] at hx1
    obtain rfl := Option.some.inj hx1
    obtain ⟨c0, c1, c2⟩ := hq (j / 3) hk
    have hm3 : j % 3 = 0 ∨ j % 3 = 1 ∨ j % 3 = 2 := by omega
    rcases hm3 with hm3 | hm3 | hm3
    · rw [if_pos hm3, ← c0]; congr 2; omega
    · rw [if_neg (by omega), if_pos hm3, ← c1]; congr 2; omega
    · rw [if_neg (by omega), if_neg (by omega), ← c2]; congr 2; omega
theorem open_int64s {H : Type} {enc : TypeId × Value → H} {W : World} {base : Nat} {spare : Nat → Bool} {held : Bool} {fuel : Nat} {cs : List Value} {x : DataW H × List MemPlace}
    (h : DataW.trod enc Tryz.prog W base spare held fuel 23 cs = some x) :
    ∃ (ao : Option Addr) (l c : Nat) (zs : List Int), cs = [.slice ao l c] ∧ l = zs.length ∧ Sl 1 W (.slice ao l c) zs.length (ints zs) := by
  rcases open_ints Tryz.underlying23 Tryz.underlying3 (by kernel_rfl) h with ⟨hcs, _⟩ | ⟨x, l, c, zs, hcs, _, hl, hm, hz, _, hcell, hwz⟩
  · exact ⟨none, 0, 0, [], hcs, rfl, Sl.nil 1 W⟩
  · have hz' : l ≤ zs.length := by rw [hz]; split <;> omega
    have hi := (isInts_row (k := .i64) hl hm hz' hcell hwz).1
    exact ⟨some x, l, c, zs.take l, hcs, by simp; omega, hi⟩
/-- A program that came in. -/
theorem open_prog {H : Type} {enc : TypeId × Value → H} {W : World} {base b0 : Nat} {spare : Nat → Bool} {held : Bool} {r : Reach} {v : Value} {d : DataW H} {p : List MemPlace}
    (hv : Value.okWide Tryz.prog W r b0 25 v) (h : DataW.Trod enc Tryz.prog W base spare held 25 v d p) :
    ∃ (n : Int) (vc vo : Value) (c : List Ins) (o : List Int), v = .agg #[.int .i64 n, vc, vo] ∧ Sl 3 W vc c.length (icells c) ∧ Sl 1 W vo o.length (ints o) := by
  obtain ⟨x, y, z, e, g, k, n, rfl, _, _, hx, hy, hz⟩ := Joins.open_agg3 Tryz.underlying25 (by kernel_rfl) (by kernel_rfl) hv h
  obtain ⟨a, ex, _, _⟩ := DataW.trod_int Tryz.underlying3 hx
  obtain ⟨ac, lc, cc, es, ey, rfl, h1⟩ := open_instrs hy
  obtain ⟨ao, lo, co, zs, ez, rfl, h2⟩ := open_int64s hz
  simp only [List.cons.injEq, and_true] at ex ey ez
  subst ex ey ez
  exact ⟨a, _, _, es, zs, rfl, h1, h2⟩
end Go.Proofs.YtmabciajhmjmeaaGreatDoor
