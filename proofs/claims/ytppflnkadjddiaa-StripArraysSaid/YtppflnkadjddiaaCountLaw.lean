/-
  strip.Count: the numbers that it reckons with, and their rows in memory.
  No condition.
-/
import Derived.Test.YtppflnkadjddiaaIntOps
import Derived.Test.YtppflnkadjddiaaTable
import Derived.Test.YtppflnkadjddiaaHard
namespace Go.Proofs.Ytppflnkadjddiaa
open Go.RowKit
set_option linter.unusedVariables false

/-- The sum over the first c columns that can stand before e. -/
def acc (P : Nat → Nat → Bool) (xs : List Nat) : Nat → Nat → Nat
  | 0, _ => 0
  | c + 1, e => acc P xs c e + (if P c e then xs.getD c 0 else 0)
def cstep (P : Nat → Nat → Bool) (N : Nat) (xs : List Nat) : List Nat := (List.range N).map (acc P xs N)
def citer (P : Nat → Nat → Bool) (N : Nat) : Nat → List Nat
  | 0 => List.replicate N 1
  | k + 1 => cstep P N (citer P N k)
/-- In the middle of a column: the first e entries have the column's share. -/
def mix (P : Nat → Nat → Bool) (N : Nat) (xs : List Nat) (c e : Nat) : List Nat := (List.range N).map fun j => if j < e then acc P xs (c + 1) j else acc P xs c j
def cnt (P : Nat → Nat → Bool) (N n : Nat) : Nat := if n = 0 then 1 else (citer P N (n - 1)).sum

theorem mix_len (P N xs c e) : (mix P N xs c e).length = N := by simp [mix]
theorem mix_get (P N xs c e) {j : Nat} (h : j < N) : (mix P N xs c e)[j]? = some (if j < e then acc P xs (c + 1) j else acc P xs c j) := by simp [mix, h]
theorem mix_start (P N xs) : mix P N xs 0 0 = List.replicate N 0 := by
  apply List.ext_getElem?
  intro j
  by_cases h : j < N
  · rw [mix_get _ _ _ _ _ h]; simp [acc, h]
  · rw [List.getElem?_eq_none (by simp [mix]; omega), List.getElem?_eq_none (by simp; omega)]
theorem mix_next (P N xs c) : mix P N xs c N = mix P N xs (c + 1) 0 := by
  apply List.ext_getElem?
  intro j
  by_cases h : j < N
  · rw [mix_get _ _ _ _ _ h, mix_get _ _ _ _ _ h]; simp [h]
  · rw [List.getElem?_eq_none (by simp [mix]; omega), List.getElem?_eq_none (by simp [mix]; omega)]
theorem mix_end (P N xs) : mix P N xs N 0 = cstep P N xs := by simp [mix, cstep]
theorem mix_set (P N xs c e) (h : e < N) : (mix P N xs c e).set e (acc P xs (c + 1) e) = mix P N xs c (e + 1) := by
  apply List.ext_getElem?
  intro j
  by_cases hj : j < N
  · rw [mix_get _ _ _ _ _ hj]
    by_cases hje : j = e
    · subst hje; simp [mix, h]
    · rw [List.getElem?_set_ne (by omega), mix_get _ _ _ _ _ hj]
      by_cases hl : j < e
      · rw [if_pos hl, if_pos (by omega)]
      · rw [if_neg hl, if_neg (by omega)]
  · rw [List.getElem?_eq_none (by simp [mix]; omega), List.getElem?_eq_none (by simp [mix]; omega)]
theorem mix_skip (P N xs c e) (h : P c e = false) : mix P N xs c (e + 1) = mix P N xs c e := by
  apply List.ext_getElem?
  intro j
  by_cases hj : j < N
  · rw [mix_get _ _ _ _ _ hj, mix_get _ _ _ _ _ hj]
    by_cases hje : j = e
    · subst hje; simp [acc, h]
    · by_cases hl : j < e
      · rw [if_pos hl, if_pos (by omega)]
      · rw [if_neg hl, if_neg (by omega)]
  · rw [List.getElem?_eq_none (by simp [mix]; omega), List.getElem?_eq_none (by simp [mix]; omega)]

/-! How great they can be. -/
def Most (M : Nat) (xs : List Nat) : Prop := ∀ x ∈ xs, x ≤ M
theorem getD_most {M : Nat} {xs : List Nat} (h : Most M xs) (c : Nat) : xs.getD c 0 ≤ M := by
  rw [List.getD_eq_getElem?_getD]
  cases hc : xs[c]? with
  | none => simp
  | some x => exact h x (List.mem_of_getElem? hc)
theorem acc_most {M : Nat} (P : Nat → Nat → Bool) {xs : List Nat} (h : Most M xs) (c e : Nat) : acc P xs c e ≤ c * M := by
  induction c with
  | zero => simp [acc]
  | succ c ih =>
    rw [acc, Nat.succ_mul]
    have := getD_most h c
    split <;> omega
theorem cstep_most {M N : Nat} (P : Nat → Nat → Bool) {xs : List Nat} (h : Most M xs) : Most (N * M) (cstep P N xs) := by
  intro x hx
  simp only [cstep, List.mem_map] at hx
  obtain ⟨e, _, rfl⟩ := hx
  exact acc_most P h N e
theorem citer_len (P N k) : (citer P N k).length = N := by cases k <;> simp [citer, cstep]
theorem citer_most (P : Nat → Nat → Bool) {N : Nat} (hN : N ≤ 16) (k : Nat) : Most (16 ^ k) (citer P N k) := by
  induction k with
  | zero => intro x hx; simp [citer] at hx; omega
  | succ k ih =>
    intro x hx
    have h1 := cstep_most (N := N) P ih x hx
    have h2 : N * 16 ^ k ≤ 16 * 16 ^ k := Nat.mul_le_mul_right _ hN
    rw [Nat.pow_succ]
    omega
theorem sum_most {M : Nat} {xs : List Nat} (h : Most M xs) : xs.sum ≤ xs.length * M := by
  induction xs with
  | nil => simp
  | cons a r ih =>
    have h1 := ih (fun x hx => h x (List.mem_cons_of_mem _ hx))
    have h2 := h a (List.mem_cons_self ..)
    rw [List.sum_cons, List.length_cons, Nat.succ_mul]
    omega
theorem fits_pow {n m : Nat} (hm : m ≤ 5000) (h : n ≤ 16 ^ m) : Fits (n : Int) := by
  have h1 : 16 ^ m < 256 ^ (m + 1) := by
    have h2 : 16 ^ m ≤ 256 ^ m := Nat.pow_le_pow_left (by decide) m
    have h3 : 256 ^ m < 256 ^ (m + 1) := Nat.pow_lt_pow_right (by decide) (by omega)
    omega
  have h4 := bytesBE_len n (m + 1) (by omega)
  show (bytesBE ((n : Int)).natAbs).length ≤ 200000
  simp only [Int.natAbs_natCast]
  omega

/-! A row of numbers in memory. -/
structure NRow (w : World) (g : Nat) (xs : List Nat) : Prop where
  cell : ∀ j x, xs[j]? = some x → w.cell? ⟨g, j * 2, none⟩ = some (.bool false) ∧ w.cell? ⟨g, j * 2 + 1, none⟩ = some (.string (nmg x))
  free : ∀ o, w.frozen? ⟨g, o, none⟩ = false
theorem NRow.keep {w w' : World} {g B : Nat} {xs : List Nat} (h : NRow w g xs) (hb : Below B w w') (hg : g < B) : NRow w' g xs :=
  ⟨fun j x hx => ⟨(hb.cell hg).trans (h.cell j x hx).1, (hb.cell hg).trans (h.cell j x hx).2⟩, fun o => (hb.frozen hg).trans (h.free o)⟩
theorem NRow.set {w : World} {g e y : Nat} {xs : List Nat} (h : NRow w g xs) (he : e < xs.length) :
    NRow ((w.setCell ⟨g, e * 2, none⟩ (.bool false)).setCell ⟨g, e * 2 + 1, none⟩ (.string (nmg y))) g (xs.set e y) := by
  obtain ⟨x0, hx0⟩ := some_of_lt he
  obtain ⟨k0, k1⟩ := h.cell e x0 hx0
  have k1' : (w.setCell ⟨g, e * 2, none⟩ (.bool false)).cell? ⟨g, e * 2 + 1, none⟩ = some (.string (nmg x0)) := by
    rw [World.cell?_setCell_other _ _ _ _ (by simp)]; exact k1
  refine ⟨fun j x hx => ?_, fun o => by rw [World.frozen?_setCell, World.frozen?_setCell]; exact h.free o⟩
  by_cases hj : j = e
  · subst hj
    rw [List.getElem?_set_self he] at hx
    obtain rfl : y = x := by simpa using hx
    exact ⟨by rw [World.cell?_setCell_other _ _ _ _ (by simp)]; exact World.cell?_setCell_same _ _ _ k0, World.cell?_setCell_same _ _ _ k1'⟩
  · rw [List.getElem?_set_ne (by omega)] at hx
    obtain ⟨c0, c1⟩ := h.cell j x hx
    refine ⟨?_, ?_⟩
    · rw [World.cell?_setCell_other _ _ _ _ (fun e' => by injection e' with _ e2; omega), World.cell?_setCell_other _ _ _ _ (fun e' => by injection e' with _ e2; omega)]; exact c0
    · rw [World.cell?_setCell_other _ _ _ _ (fun e' => by injection e' with _ e2; omega), World.cell?_setCell_other _ _ _ _ (fun e' => by injection e' with _ e2; omega)]; exact c1
/-- A store into another block. -/
theorem NRow.far {w : World} {g : Nat} {xs : List Nat} (h : NRow w g xs) (a : Addr) (v : Value) (ha : a.block ≠ g) : NRow (w.setCell a v) g xs :=
  ⟨fun j x hx => ⟨by rw [World.cell?_setCell_far _ _ _ _ ha]; exact (h.cell j x hx).1, by rw [World.cell?_setCell_far _ _ _ _ ha]; exact (h.cell j x hx).2⟩, fun o => by rw [World.frozen?_setCell]; exact h.free o⟩

theorem getElem?_madeCells (z : Array Value) (hz : 0 < z.size) (n j : Nat) (h : j < n) : (madeCells z n)[j]? = z[j % z.size]? := by
  have h2 : j % z.size < z.size := Nat.mod_lt _ hz
  simp [madeCells, h, h2]
theorem NRow.of_owns {w : World} {base : Nat} {e : TypeId} {g n : Nat} (h : w.ownsRow base e 2 (.slice (some ⟨g, 0, none⟩) n n) n (madeCells #[.bool false, .string ⟨#[]⟩] (n * 2)).toList) : NRow w g (List.replicate n 0) := by
  refine ⟨fun j x hx => ?_, fun o => ?_⟩
  · have hj : j < n := by have := lt_of_some hx; simpa using this
    have hx0 : x = 0 := by rw [List.getElem?_replicate] at hx; split at hx <;> simp_all
    subst hx0
    rw [h.cellAt _ (by omega), h.cellAt _ (by omega), Array.getElem?_toList, Array.getElem?_toList, getElem?_madeCells _ (by simp) _ _ (by omega), getElem?_madeCells _ (by simp) _ _ (by omega)]
    have h1 : j * 2 % 2 = 0 := by omega
    have h2 : (j * 2 + 1) % 2 = 1 := by omega
    simp [h1, h2, nmg, bytesBE_zero]
  · rcases h.2 with ⟨h', _⟩ | ⟨g', cap', cur, h', _, hg, _⟩
    · simp at h'
    · simp only [Value.slice.injEq, Option.some.injEq, Addr.mk.injEq, and_true, true_and] at h'
      obtain ⟨rfl, rfl⟩ := h'
      simp only [World.frozen?, hg]
      simp
end Go.Proofs.Ytppflnkadjddiaa
