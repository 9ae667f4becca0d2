/-
  Least costs of alignments: plain laws.
  No condition: no program in sight.
-/
import Derived.Test.YtcobdmenigpipaaGreatDoorInsLaw
namespace Go.Proofs.YtcobdmenigpipaaGreatDoor
open Go.RowKit
set_option linter.unusedVariables false

def dif8 (a b : UInt8) : Nat := if a = b then 0 else 1
theorem dif8_le (a b : UInt8) : dif8 a b ≤ 1 := by unfold dif8; split <;> omega
/-- The least cost of an alignment of two words. -/
def costL : List UInt8 → List UInt8 → Nat
  | [], r => 2 * r.length
  | a :: m, [] => 2 * (m.length + 1)
  | a :: m, b :: r => min (min (2 + costL m (b :: r)) (2 + costL (a :: m) r)) (dif8 a b + costL m r)
termination_by m r => m.length + r.length
decreasing_by all_goals (simp only [List.length_cons]; omega)
def distL : List UInt8 → List UInt8 → Nat
  | a :: m, b :: r => dif8 a b + distL m r
  | _, _ => 0
theorem cost_nil (r : List UInt8) : costL [] r = 2 * r.length := by rw [costL]
theorem cost_end (m : List UInt8) : costL m [] = 2 * m.length := by
  cases m with
  | nil => rw [costL]
  | cons a m => rw [costL]; rfl
theorem cost_cons (a b : UInt8) (m r : List UInt8) : costL (a :: m) (b :: r) = min (min (2 + costL m (b :: r)) (2 + costL (a :: m) r)) (dif8 a b + costL m r) := by rw [costL]
theorem cost_gap : ∀ (n : Nat) (m r : List UInt8), m.length + r.length ≤ n → 2 * m.length ≤ costL m r + 2 * r.length ∧ 2 * r.length ≤ costL m r + 2 * m.length ∧ costL m r ≤ 2 * (m.length + r.length)
  | n, [], r, _ => by rw [cost_nil]; simp
  | n, a :: m, [], _ => by rw [cost_end]; simp
  | 0, a :: m, b :: r, h => by simp at h
  | n + 1, a :: m, b :: r, h => by
    simp only [List.length_cons] at h
    have h1 := cost_gap n m (b :: r) (by simp only [List.length_cons]; omega)
    have h2 := cost_gap n (a :: m) r (by simp only [List.length_cons]; omega)
    have h3 := cost_gap n m r (by omega)
    have h4 := dif8_le a b
    rw [cost_cons]
    simp only [List.length_cons] at *
    omega
theorem gap1 (m r : List UInt8) : 2 * m.length ≤ costL m r + 2 * r.length := (cost_gap _ m r (Nat.le_refl _)).1
theorem gap2 (m r : List UInt8) : 2 * r.length ≤ costL m r + 2 * m.length := (cost_gap _ m r (Nat.le_refl _)).2.1
theorem cost_le (m r : List UInt8) : costL m r ≤ 2 * (m.length + r.length) := (cost_gap _ m r (Nat.le_refl _)).2.2
theorem cost_diag : ∀ (m r : List UInt8), m.length = r.length → distL m r ≤ 3 → costL m r = distL m r
  | [], [], _, _ => by rw [cost_nil]; rfl
  | [], _ :: _, h, _ => by simp at h
  | _ :: _, [], h, _ => by simp at h
  | a :: m, b :: r, h, hd => by
    have hl : m.length = r.length := by simpa using h
    have hd' : dif8 a b + distL m r ≤ 3 := hd
    have ih := cost_diag m r hl (by omega)
    have g1 := gap2 m (b :: r)
    have g2 := gap1 (a :: m) r
    simp only [List.length_cons] at g1 g2
    rw [cost_cons, ih]
    show _ = dif8 a b + distL m r
    omega
/-- The cost of what stands behind two offsets. -/
def costAt (A B : List UInt8) (i k : Nat) : Nat := costL (A.drop i) (B.drop k)
theorem drop_at {A : List UInt8} {i : Nat} {a : UInt8} (h : A[i]? = some a) : A.drop i = a :: A.drop (i + 1) := by
  obtain ⟨h1, h2⟩ := List.getElem?_eq_some_iff.1 h
  rw [List.drop_eq_getElem_cons h1, h2]
theorem costAt_top (A B : List UInt8) (k : Nat) : costAt A B A.length k = 2 * (B.length - k) := by
  rw [costAt, List.drop_length, cost_nil, List.length_drop]
theorem costAt_end (A B : List UInt8) (i : Nat) : costAt A B i B.length = 2 * (A.length - i) := by
  rw [costAt, List.drop_length, cost_end, List.length_drop]
theorem costAt_step {A B : List UInt8} {i k : Nat} {a b : UInt8} (ha : A[i]? = some a) (hb : B[k]? = some b) : costAt A B i k = min (min (2 + costAt A B (i + 1) k) (2 + costAt A B i (k + 1))) (dif8 a b + costAt A B (i + 1) (k + 1)) := by
  unfold costAt
  rw [drop_at ha, drop_at hb, cost_cons]
theorem costAt_le (A B : List UInt8) (i k : Nat) : costAt A B i k ≤ 2 * (A.length + B.length) := by
  have := cost_le (A.drop i) (B.drop k)
  rw [List.length_drop, List.length_drop] at this
  unfold costAt
  omega
theorem dist_drop : ∀ (A B : List UInt8) (i : Nat), distL (A.drop i) (B.drop i) ≤ distL A B
  | A, B, 0 => Nat.le_refl _
  | [], B, i + 1 => by rw [List.drop_nil]; cases B.drop (i + 1) <;> simp [distL]
  | _ :: _, [], i + 1 => by rw [List.drop_nil]; cases (List.drop (i + 1) (_ :: _)) <;> simp [distL]
  | a :: A, b :: B, i + 1 => by
    rw [List.drop_succ_cons, List.drop_succ_cons]
    have := dist_drop A B i
    show _ ≤ dif8 a b + distL A B
    omega
theorem costAt_diag {A B : List UInt8} (hl : A.length = B.length) (hd : distL A B ≤ 3) (i : Nat) : costAt A B i i = distL (A.drop i) (B.drop i) ∧ costAt A B i i ≤ 3 := by
  have h := dist_drop A B i
  have e := cost_diag (A.drop i) (B.drop i) (by rw [List.length_drop, List.length_drop, hl]) (by omega)
  exact ⟨e, by unfold costAt; omega⟩
/-- On the diagonal the first way fits, and no other one does. -/
theorem diag_fits {A B : List UInt8} (hl : A.length = B.length) (hd : distL A B ≤ 3) {i : Nat} {a b : UInt8} (ha : A[i]? = some a) (hb : B[i]? = some b) : dif8 a b + costAt A B (i + 1) (i + 1) = costAt A B i i := by
  have h1 := (costAt_diag hl hd i).1
  have h2 := (costAt_diag hl hd (i + 1)).1
  rw [h1, h2, drop_at ha, drop_at hb]
  rfl
theorem diag_skip {A B : List UInt8} (hl : A.length = B.length) (hd : distL A B ≤ 3) {i : Nat} (hi : i < A.length) : costAt A B i i < 2 + costAt A B (i + 1) i := by
  have h1 := (costAt_diag hl hd i).2
  have h2 := gap2 (A.drop (i + 1)) (B.drop i)
  rw [List.length_drop, List.length_drop] at h2
  unfold costAt at *
  omega
theorem diag_far {A B : List UInt8} (hl : A.length = B.length) (hd : distL A B ≤ 3) {i t : Nat} (hit : i < t) (ht : t < B.length) (d : Nat) : costAt A B i i < 2 * (t - i) + d + costAt A B (i + 1) (t + 1) := by
  have h1 := (costAt_diag hl hd i).2
  have h2 := gap1 (A.drop (i + 1)) (B.drop (t + 1))
  rw [List.length_drop, List.length_drop] at h2
  unfold costAt at *
  omega
/-- A word written over a mark. -/
def xorW : List UInt8 → List UInt8 → List UInt8
  | a :: m, b :: w => UInt8.ofNat (48 + (if a = b then 0 else 1)) :: xorW m w
  | _, _ => []
end Go.Proofs.YtcobdmenigpipaaGreatDoor
