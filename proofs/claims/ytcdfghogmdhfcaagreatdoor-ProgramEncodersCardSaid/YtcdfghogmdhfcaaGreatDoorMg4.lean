/-
  What the frames of the statements about programs share: how a program that came in is read.
  The frames of a statement about an encoder and a program, together.
  The table of pairs of a machine: what it is, that there is only one, and that filling it in place yields it.
  Conditions: No condition: these are general lemmas. No condition: nothing is proved here. No condition: plain laws.
-/
import Derived.Test.YtcdfghogmdhfcaaGreatDoorProg
import Derived.Test.YtcdfghogmdhfcaaGreatDoorInsLaw
import Derived.Test.YtcdfghogmdhfcaaGreatDoorMg2
import Derived.Lib.SmallJoins
import Derived.Deep.Slices
import Derived.Test.YtcdfghogmdhfcaaGreatDoorMg0
namespace Go.Proofs.YtcdfghogmdhfcaaGreatDoor
open Go.RowKit Go.Deep Go.ChangeShapes Go.WideShapes
set_option linter.unusedVariables false
set_option maxRecDepth 100000

theorem icells_at {es : List Ins} {j : Nat} {y : Value} (h : (icells es)[j]? = some y) : ∃ x, es[j / 3]? = some x ∧ y = (if j % 3 = 0 then .int .i64 x.op else if j % 3 = 1 then .int .i64 x.a else .int .i64 x.b) := by
  have hj := lt_of_some h
  rw [icells_len] at hj
  obtain ⟨x, hx⟩ := some_of_lt (show j / 3 < es.length by omega)
  refine ⟨x, hx, ?_⟩
  obtain ⟨h0, h1, h2⟩ := icells_get hx
  have hm : j % 3 = 0 ∨ j % 3 = 1 ∨ j % 3 = 2 := by omega
  rcases hm with hm | hm | hm
  · rw [show j / 3 * 3 = j by omega, h] at h0
    rw [if_pos hm]
    exact Option.some.inj h0
  · rw [show j / 3 * 3 + 1 = j by omega, h] at h1
    rw [if_neg (by omega), if_pos hm]
    exact Option.some.inj h1
  · rw [show j / 3 * 3 + 2 = j by omega, h] at h2
    rw [if_neg (by omega), if_neg (by omega)]
    exact Option.some.inj h2
/-- A slice of instructions that came in. -/
theorem open_instrs {H : Type} {enc : TypeId × Value → H} {W : World} {base : Nat} {spare : Nat → Bool} {held : Bool} {fuel : Nat} {cs : List Value} {x : DataW H × List MemPlace}
    (h : DataW.trod enc Tryz.prog W base spare held fuel 25 cs = some x) :
    ∃ (ao : Option Addr) (l c : Nat) (es : List Ins), cs = [.slice ao l c] ∧ l = es.length ∧ Sl 3 W (.slice ao l c) es.length (icells es) := by
  rcases open_slice Tryz.underlying25 h with ⟨rfl, _⟩ | ⟨a, len, cap, m, n, D, Pl, rfl, hb, hl, hm, hmm, rfl, hx⟩
  · exact ⟨none, 0, 0, [], rfl, rfl, Sl.nil 3 W⟩
  have hlm : len ≤ m := by rw [hmm]; split <;> omega
  have ce : Tryz.prog.cellsOf 47 = 3 := by kernel_rfl
  have each : ∀ i, i < len → ∃ q : Ins, W.cell? (a.add (i * 3)) = some (.int .i64 q.op) ∧ W.cell? (a.add (i * 3 + 1)) = some (.int .i64 q.a) ∧ W.cell? (a.add (i * 3 + 2)) = some (.int .i64 q.b) := by
    intro i hi
    obtain ⟨cs', h1, h2⟩ := hx i (by omega)
    rw [ce] at h1
    obtain ⟨_, hlen, hcell⟩ := World.cells?_some h1
    obtain ⟨xs, k, hk, hxy, _, hxl, hf⟩ := DataW.trod_struct Tryz.underlying47 h2
    match xs, hxl, cs', hlen with
    | [y0, y1, y2], _, [v0, v1, v2], _ =>
      have g0 := hf 0 _ rfl
      have g1 := hf 1 _ rfl
      have g2 := hf 2 _ rfl
      have ci : Tryz.prog.cellsOf 3 = 1 := by kernel_rfl
      simp [ci] at g0 g1 g2
      obtain ⟨b0, e0, _, _⟩ := DataW.trod_int Tryz.underlying3 g0
      obtain ⟨b1, e1, _, _⟩ := DataW.trod_int Tryz.underlying3 g1
      obtain ⟨b2, e2, _, _⟩ := DataW.trod_int Tryz.underlying3 g2
      have c0 := hcell 0 (by omega)
      have c1 := hcell 1 (by omega)
      have c2 := hcell 2 (by omega)
      rw [Deep.add_add] at c0 c1 c2
      simp only [List.cons.injEq, and_true] at e0 e1 e2
      subst e0 e1 e2
      exact ⟨⟨b0, b1, b2⟩, by simpa using c0, by simpa using c1, by simpa using c2⟩
  obtain ⟨q, hq⟩ := choose_lt each
  have hlen : ((List.range len).map q).length = len := by simp
  refine ⟨some a, len, cap, (List.range len).map q, rfl, by simp, some a, cap, by rw [hlen], by rw [icells_len], by rw [hlen]; omega, by unfold maxLen at hm; omega, ?_⟩
  by_cases h0 : len = 0
  · exact .inl (by rw [hlen, h0])
  · refine .inr ?_
    have hs : a.spot = none := by simpa [Addr.add] using World.cell?_spot (hq 0 (by omega)).1
    obtain ⟨b, o, spot⟩ := a
    simp only at hs
    subst hs
    have e : ∀ j, (⟨b, o, none⟩ : Addr).add j = ⟨b, o + j, none⟩ := fun j => by unfold Addr.add; split <;> simp_all
    simp only [e] at hq
    refine ⟨b, o, rfl, fun j y hy => ?_⟩
    obtain ⟨x, hx1, rfl⟩ := icells_at hy
    have hk : j / 3 < len := by
      have := lt_of_some hx1
      rwa [hlen] at this
    rw [List.getElem?_map, List.getElem?_range hk] at hx1
    obtain rfl := Option.some.inj hx1
    obtain ⟨c0, c1, c2⟩ := hq (j / 3) hk
    have hm3 : j % 3 = 0 ∨ j % 3 = 1 ∨ j % 3 = 2 := by omega
    rcases hm3 with hm3 | hm3 | hm3
    · rw [if_pos hm3, ← c0]; congr 2; omega
    · rw [if_neg (by omega), if_pos hm3, ← c1]; congr 2; omega
    · rw [if_neg (by omega), if_neg (by omega), ← c2]; congr 2; omega
theorem open_int64s {H : Type} {enc : TypeId × Value → H} {W : World} {base : Nat} {spare : Nat → Bool} {held : Bool} {fuel : Nat} {cs : List Value} {x : DataW H × List MemPlace}
    (h : DataW.trod enc Tryz.prog W base spare held fuel 26 cs = some x) :
    ∃ (ao : Option Addr) (l c : Nat) (zs : List Int), cs = [.slice ao l c] ∧ l = zs.length ∧ Sl 1 W (.slice ao l c) zs.length (ints zs) := by
  rcases open_ints Tryz.underlying26 Tryz.underlying3 (by kernel_rfl) h with ⟨hcs, _⟩ | ⟨x, l, c, zs, hcs, _, hl, hm, hz, _, hcell, hwz⟩
  · exact ⟨none, 0, 0, [], hcs, rfl, Sl.nil 1 W⟩
  · have hz' : l ≤ zs.length := by rw [hz]; split <;> omega
    have hi := (isInts_row (k := .i64) hl hm hz' hcell hwz).1
    exact ⟨some x, l, c, zs.take l, hcs, by simp; omega, hi⟩
/-- A program that came in. -/
theorem open_prog {H : Type} {enc : TypeId × Value → H} {W : World} {base b0 : Nat} {spare : Nat → Bool} {held : Bool} {r : Reach} {v : Value} {d : DataW H} {p : List MemPlace}
    (hv : Value.okWide Tryz.prog W r b0 28 v) (h : DataW.Trod enc Tryz.prog W base spare held 28 v d p) :
    ∃ (n : Int) (vc vo : Value) (c : List Ins) (o : List Int), v = .agg #[.int .i64 n, vc, vo] ∧ Sl 3 W vc c.length (icells c) ∧ Sl 1 W vo o.length (ints o) := by
  obtain ⟨x, y, z, e, g, k, n, rfl, _, _, hx, hy, hz⟩ := Joins.open_agg3 Tryz.underlying28 (by kernel_rfl) (by kernel_rfl) hv h
  obtain ⟨a, ex, _, _⟩ := DataW.trod_int Tryz.underlying3 hx
  obtain ⟨ac, lc, cc, es, ey, rfl, h1⟩ := open_instrs hy
  obtain ⟨ao, lo, co, zs, ez, rfl, h2⟩ := open_int64s hz
  simp only [List.cons.injEq, and_true] at ex ey ez
  subst ex ey ez
  exact ⟨a, _, _, es, zs, rfl, h1, h2⟩
end Go.Proofs.YtcdfghogmdhfcaaGreatDoor

namespace Go.Proofs.YtcdfghogmdhfcaaGreatDoor
theorem both_frames : True := trivial
end Go.Proofs.YtcdfghogmdhfcaaGreatDoor

namespace Go.Proofs.YtcdfghogmdhfcaaGreatDoor
open Go.RowKit

/-- The greatest number of the pairs to which the first k letters lead; none if one of them has no number. -/
def mostK (nx : Nat → Nat → Nat) (T : Nat → Nat → Int) (s t : Nat) : Nat → Option Int
  | 0 => some 0
  | a + 1 => match mostK nx T s t a with
    | none => none
    | some m => if T (nx s a) (nx t a) < 0 then none else some (max m (T (nx s a) (nx t a)))
def numOf : Option Int → Int
  | none => -1
  | some m => m + 1
theorem mostK_none {nx : Nat → Nat → Nat} {T : Nat → Nat → Int} {s t a : Nat} (h : mostK nx T s t a = none) : mostK nx T s t (a + 1) = none := by rw [mostK, h]
theorem mostK_bad {nx : Nat → Nat → Nat} {T : Nat → Nat → Int} {s t a : Nat} (h : T (nx s a) (nx t a) < 0) : mostK nx T s t (a + 1) = none := by
  rw [mostK]; cases mostK nx T s t a with
  | none => rfl
  | some m => simp [h]
theorem mostK_good {nx : Nat → Nat → Nat} {T : Nat → Nat → Int} {s t a : Nat} {m : Int} (h : mostK nx T s t a = some m) (h2 : ¬ T (nx s a) (nx t a) < 0) : mostK nx T s t (a + 1) = some (max m (T (nx s a) (nx t a))) := by
  rw [mostK, h]; simp [h2]
theorem mostK_some {nx : Nat → Nat → Nat} {T : Nat → Nat → Int} {s t k : Nat} {m : Int} (h : mostK nx T s t k = some m) : 0 ≤ m ∧ ∀ a < k, 0 ≤ T (nx s a) (nx t a) ∧ T (nx s a) (nx t a) ≤ m := by
  induction k generalizing m with
  | zero => simp only [mostK, Option.some.injEq] at h; exact ⟨by omega, fun a ha => by omega⟩
  | succ k ih =>
    rw [mostK] at h
    cases hk : mostK nx T s t k with
    | none => rw [hk] at h; cases h
    | some m' =>
      rw [hk] at h
      obtain ⟨h1, h2⟩ := ih hk
      by_cases hb : T (nx s k) (nx t k) < 0
      · simp [hb] at h
      · simp only [hb, if_false, Option.some.injEq] at h
        refine ⟨by omega, fun a ha => ?_⟩
        by_cases e : a = k
        · subst e; omega
        · have := h2 a (by omega); omega
theorem mostK_none_iff {nx : Nat → Nat → Nat} {T : Nat → Nat → Int} {s t k : Nat} : mostK nx T s t k = none ↔ ∃ a < k, T (nx s a) (nx t a) < 0 := by
  induction k with
  | zero => simp [mostK]
  | succ k ih =>
    by_cases hb : T (nx s k) (nx t k) < 0
    · rw [mostK_bad hb]; simp only [true_iff]; exact ⟨k, by omega, hb⟩
    · cases hk : mostK nx T s t k with
      | none =>
        rw [mostK_none hk]
        simp only [true_iff]
        obtain ⟨a, ha, h⟩ := ih.1 hk
        exact ⟨a, by omega, h⟩
      | some m =>
        rw [mostK_good hk hb]
        simp only [reduceCtorEq, false_iff]
        rintro ⟨a, ha, h⟩
        have := (mostK_some hk).2 a
        by_cases e : a = k
        · subst e; omega
        · have := this (by omega); omega
theorem mostK_congr {nx : Nat → Nat → Nat} {T T' : Nat → Nat → Int} {s t s' t' k : Nat} (h : ∀ a < k, T (nx s a) (nx t a) = T' (nx s' a) (nx t' a)) : mostK nx T s t k = mostK nx T' s' t' k := by
  induction k with
  | zero => rfl
  | succ k ih => rw [mostK, mostK, ih (fun a ha => h a (by omega)), h k (by omega)]
theorem mostK_attain {nx : Nat → Nat → Nat} {T : Nat → Nat → Int} {s t k : Nat} {m : Int} (h : mostK nx T s t k = some m) (hm : 0 < m) : ∃ a < k, T (nx s a) (nx t a) = m := by
  induction k generalizing m with
  | zero => simp only [mostK, Option.some.injEq] at h; omega
  | succ k ih =>
    rw [mostK] at h
    cases hk : mostK nx T s t k with
    | none => rw [hk] at h; cases h
    | some m' =>
      rw [hk] at h
      by_cases hb : T (nx s k) (nx t k) < 0
      · simp [hb] at h
      · simp only [hb, if_false, Option.some.injEq] at h
        by_cases e : T (nx s k) (nx t k) = m
        · exact ⟨k, by omega, e⟩
        · have e2 : m' = m := by omega
          subst e2
          obtain ⟨a, ha, h⟩ := ih hk hm
          exact ⟨a, by omega, h⟩

/-- The states to which letters lead are states. -/
def Closed (n q : Nat) (nx : Nat → Nat → Nat) : Prop := ∀ s < n, ∀ a < q, nx s a < n

/-- A table that is filled in part: equal states 0; another pair has no number, or one more than the greatest number of the pairs behind it. -/
structure PreTab (n q : Nat) (nx : Nat → Nat → Nat) (T : Nat → Nat → Int) : Prop where
  diag : ∀ s < n, T s s = 0
  num : ∀ s < n, ∀ t < n, s ≠ t → T s t = -1 ∨ ∃ m, mostK nx T s t q = some m ∧ T s t = m + 1

/-- The table. -/
structure IsTab (n q : Nat) (nx : Nat → Nat → Nat) (T : Nat → Nat → Int) : Prop extends PreTab n q nx T where
  full : ∀ s < n, ∀ t < n, T s t = -1 → mostK nx T s t q = none

theorem PreTab.low {n q : Nat} {nx : Nat → Nat → Nat} {T : Nat → Nat → Int} (h : PreTab n q nx T) {s t : Nat} (hs : s < n) (ht : t < n) : -1 ≤ T s t := by
  by_cases e : s = t
  · subst e; rw [h.diag s hs]; omega
  · rcases h.num s hs t ht e with h1 | ⟨m, h1, h2⟩
    · omega
    · have := (mostK_some h1).1; omega
theorem IsTab.eq {n q : Nat} {nx : Nat → Nat → Nat} {T : Nat → Nat → Int} (h : IsTab n q nx T) {s t : Nat} (hs : s < n) (ht : t < n) (e : s ≠ t) : T s t = numOf (mostK nx T s t q) := by
  rcases h.num s hs t ht e with h1 | ⟨m, h1, h2⟩
  · rw [h1, h.full s hs t ht h1]; rfl
  · rw [h1, h2]; rfl

theorem tab_le {n q : Nat} {nx : Nat → Nat → Nat} {T T' : Nat → Nat → Int} (hc : Closed n q nx) (h : PreTab n q nx T) (h' : IsTab n q nx T') (v : Nat) : ∀ s < n, ∀ t < n, T s t = v → T' s t = v := by
  induction v using Nat.strongRecOn with
  | _ v ih =>
    intro s hs t ht hv
    by_cases e : s = t
    · subst e; rw [h.diag s hs] at hv; rw [h'.diag s hs]; exact hv
    · rcases h.num s hs t ht e with h1 | ⟨m, h1, h2⟩
      · omega
      · obtain ⟨hm0, hm⟩ := mostK_some h1
        have hk : mostK nx T' s t q = some m := by
          rw [← h1]
          refine mostK_congr fun a ha => ?_
          obtain ⟨g0, g1⟩ := hm a ha
          have := ih (T (nx s a) (nx t a)).toNat (by omega) _ (hc s hs a ha) _ (hc t ht a ha) (by omega)
          omega
        have hn := h'.eq hs ht e
        rw [hk] at hn
        rw [hn]
        show m + 1 = _
        omega
/-- There is only one table. -/
theorem tab_unique {n q : Nat} {nx : Nat → Nat → Nat} {T T' : Nat → Nat → Int} (hc : Closed n q nx) (h : IsTab n q nx T) (h' : IsTab n q nx T') : ∀ s < n, ∀ t < n, T s t = T' s t := by
  intro s hs t ht
  have l1 := h.low hs ht
  have l2 := h'.low hs ht
  by_cases g : 0 ≤ T s t
  · have := tab_le hc h.toPreTab h' (T s t).toNat s hs t ht (by omega)
    omega
  · by_cases g2 : 0 ≤ T' s t
    · have := tab_le hc h'.toPreTab h (T' s t).toNat s hs t ht (by omega)
      omega
    · omega
theorem tab_symm {n q : Nat} {nx : Nat → Nat → Nat} {T : Nat → Nat → Int} (hc : Closed n q nx) (h : IsTab n q nx T) : ∀ s < n, ∀ t < n, T s t = T t s := by
  refine fun s hs t ht => tab_unique (T' := fun s t => T t s) hc h ?_ s hs t ht
  have hk : ∀ s t, mostK nx (fun s t => T t s) s t q = mostK nx T t s q := fun s t => mostK_congr fun a _ => rfl
  exact { diag := h.diag, num := fun s hs t ht e => by rw [hk]; exact h.num t ht s hs (Ne.symm e), full := fun s hs t ht e => by rw [hk]; exact h.full t ht s hs e }

/-- How many of the first numbers have a property. -/
def cnt (f : Nat → Bool) : Nat → Nat
  | 0 => 0
  | k + 1 => cnt f k + if f k then 1 else 0
theorem cnt_le {f g : Nat → Bool} {k : Nat} (h : ∀ i < k, g i = true → f i = true) : cnt g k ≤ cnt f k := by
  induction k with
  | zero => simp [cnt]
  | succ k ih =>
    have := ih (fun i hi => h i (by omega))
    have h2 := h k (by omega)
    rw [cnt, cnt]
    split <;> split <;> first | omega | (rename_i a b; exact absurd (h2 a) b)
theorem cnt_lt {f g : Nat → Bool} {k i : Nat} (h : ∀ i < k, g i = true → f i = true) (hi : i < k) (h1 : f i = true) (h2 : g i = false) : cnt g k < cnt f k := by
  induction k with
  | zero => omega
  | succ k ih =>
    rw [cnt, cnt]
    by_cases e : i = k
    · subst e
      have := cnt_le (f := f) (g := g) (k := i) (fun i hi => h i (by omega))
      rw [h1, h2]
      simp
      omega
    · have := ih (fun i hi => h i (by omega)) (by omega)
      have h2 := h k (by omega)
      split <;> split <;> first | omega | (rename_i a b; exact absurd (h2 a) b)
/-- How many pairs have no number. -/
def openN (n : Nat) (T : Nat → Nat → Int) : Nat := cnt (fun p => decide (T (p / n) (p % n) < 0)) (n * n)

/-- The table with a further number. -/
def upT (T : Nat → Nat → Int) (s t : Nat) (x : Int) : Nat → Nat → Int := fun s' t' => if s' = s ∧ t' = t then x else T s' t'
theorem upT_same (T : Nat → Nat → Int) (s t : Nat) (x : Int) : upT T s t x s t = x := by simp [upT]
theorem upT_self (T : Nat → Nat → Int) (s t : Nat) (x : Int) (h : T s t = x) : upT T s t x = T := by
  funext a b
  unfold upT
  split
  · rename_i e; obtain ⟨rfl, rfl⟩ := e; exact h.symm
  · rfl
theorem upT_far {T : Nat → Nat → Int} {s t s' t' : Nat} {x : Int} (h : ¬ (s' = s ∧ t' = t)) : upT T s t x s' t' = T s' t' := by simp [upT, h]
theorem mostK_up {nx : Nat → Nat → Nat} {T : Nat → Nat → Int} {s t s' t' k : Nat} {x m : Int} (h0 : T s t = -1) (h : mostK nx T s' t' k = some m) : mostK nx (upT T s t x) s' t' k = some m := by
  rw [← h]
  refine mostK_congr fun a ha => ?_
  have := (mostK_some h).2 a ha
  refine upT_far ?_
  rintro ⟨e1, e2⟩
  rw [e1, e2] at this
  omega
theorem pre_up {n q : Nat} {nx : Nat → Nat → Nat} {T : Nat → Nat → Int} {s t : Nat} {m : Int} (h : PreTab n q nx T) (hs : s < n) (h0 : T s t = -1) (hm : mostK nx T s t q = some m) : PreTab n q nx (upT T s t (m + 1)) := by
  refine ⟨fun s' hs' => ?_, fun s' hs' t' ht' e => ?_⟩
  · rw [upT_far, h.diag s' hs']
    rintro ⟨rfl, rfl⟩
    rw [h.diag s' hs'] at h0
    omega
  · by_cases g : s' = s ∧ t' = t
    · obtain ⟨rfl, rfl⟩ := g
      exact .inr ⟨m, mostK_up h0 hm, upT_same _ _ _ _⟩
    · rw [upT_far g]
      rcases h.num s' hs' t' ht' e with h1 | ⟨m', h1, h2⟩
      · exact .inl h1
      · exact .inr ⟨m', mostK_up h0 h1, h2⟩
theorem openN_up {n : Nat} {T : Nat → Nat → Int} {s t : Nat} {x : Int} (hs : s < n) (ht : t < n) (h0 : T s t = -1) (hx : 0 ≤ x) : openN n (upT T s t x) < openN n T := by
  have hp : (s * n + t) / n = s ∧ (s * n + t) % n = t := by
    constructor
    · rw [Nat.mul_comm, Nat.mul_add_div (by omega), Nat.div_eq_of_lt ht]; rfl
    · rw [Nat.mul_comm, Nat.mul_add_mod, Nat.mod_eq_of_lt ht]
  refine cnt_lt (i := s * n + t) (fun i hi h => ?_) ?_ ?_ ?_
  · simp only [decide_eq_true_eq] at h ⊢
    by_cases g : i / n = s ∧ i % n = t
    · rw [g.1, g.2, upT_same] at h; omega
    · rwa [upT_far g] at h
  · have : s * n + n ≤ n * n := by rw [← Nat.succ_mul]; exact Nat.mul_le_mul_right n hs
    omega
  · simp only [hp.1, hp.2, h0]; rfl
  · simp only [hp.1, hp.2, upT_same]; simp; omega

/-- The table before the first number. -/
def tab0 : Nat → Nat → Int := fun s t => if s = t then 0 else -1
theorem pre_tab0 (n q : Nat) (nx : Nat → Nat → Nat) : PreTab n q nx tab0 := ⟨fun s _ => by simp [tab0], fun s _ t _ e => .inl (by simp [tab0, e])⟩

theorem mem_sub {l l' : List Int} (hn : l.Nodup) (hs : ∀ x ∈ l, x ∈ l') : l.length ≤ l'.length := by
  induction l generalizing l' with
  | nil => simp
  | cons x l ih =>
    have hx : x ∈ l' := hs x (by simp)
    rw [List.nodup_cons] at hn
    have h1 := ih (l' := l'.erase x) hn.2 (fun y hy => by
      have hne : y ≠ x := fun e => hn.1 (e ▸ hy)
      exact (List.mem_erase_of_ne hne).2 (hs y (by simp [hy])))
    have h2 := List.length_erase_of_mem hx
    have h3 : 0 < l'.length := List.length_pos_of_mem hx
    simp only [List.length_cons]
    omega
/-- Each lesser number is one of the table. -/
theorem tab_all {n q : Nat} {nx : Nat → Nat → Nat} {T : Nat → Nat → Int} (hc : Closed n q nx) (h : PreTab n q nx T) (v : Nat) : ∀ s < n, ∀ t < n, T s t = v → ∀ u ≤ v, ∃ s' < n, ∃ t' < n, T s' t' = (u : Nat) := by
  induction v with
  | zero => intro s hs t ht hv u hu; exact ⟨s, hs, t, ht, by rw [hv]; have : u = 0 := by omega
                                                             rw [this]⟩
  | succ v ih =>
    intro s hs t ht hv u hu
    by_cases e : u = v + 1
    · exact ⟨s, hs, t, ht, by rw [hv, e]⟩
    · by_cases es : s = t
      · subst es; rw [h.diag s hs] at hv; omega
      · rcases h.num s hs t ht es with h1 | ⟨m, h1, h2⟩
        · omega
        · by_cases hv0 : v = 0
          · exact ⟨s, hs, s, hs, by rw [h.diag s hs]; omega⟩
          · obtain ⟨a, ha, h3⟩ := mostK_attain h1 (by omega)
            exact ih (nx s a) (hc s hs a ha) (nx t a) (hc t ht a ha) (by omega) u (by omega)
theorem tab_bound {n q : Nat} {nx : Nat → Nat → Nat} {T : Nat → Nat → Int} (hc : Closed n q nx) (h : PreTab n q nx T) {s t : Nat} (hs : s < n) (ht : t < n) : T s t < (n * n : Nat) := by
  by_cases g : T s t < 0
  · omega
  · have key := tab_all hc h (T s t).toNat s hs t ht (by omega)
    have h1 := mem_sub (l := (List.range ((T s t).toNat + 1)).map (fun (u : Nat) => (u : Int))) (l' := (List.range (n * n)).map (fun p => T (p / n) (p % n))) ?_ ?_
    · simp only [List.length_map, List.length_range] at h1; omega
    · rw [List.Nodup, List.pairwise_map]
      exact List.nodup_range.imp fun {a b} hab e => hab (by exact Int.ofNat_inj.1 e)
    · intro x hx
      simp only [List.mem_map, List.mem_range] at hx ⊢
      obtain ⟨u, hu, rfl⟩ := hx
      obtain ⟨s', hs', t', ht', e⟩ := key u (by omega)
      refine ⟨s' * n + t', ?_, ?_⟩
      · have : s' * n + n ≤ n * n := by rw [← Nat.succ_mul]; exact Nat.mul_le_mul_right n hs'
        omega
      · rw [Nat.mul_comm, Nat.mul_add_div (by omega), Nat.div_eq_of_lt ht', Nat.mul_add_mod, Nat.mod_eq_of_lt ht']
        exact e
end Go.Proofs.YtcdfghogmdhfcaaGreatDoor
