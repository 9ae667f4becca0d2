/-
  The greatest number of the pairs of states to which one state can lead: three nested walks.
  No condition: plain laws.
-/
import Derived.Test.YtalklhjmnoodeaaRunLaw
namespace Go.Proofs.Ytalklhjmnoodeaa
open Go.RowKit

def gStep (o : Option Int) (x : Int) : Option Int := match o with | none => none | some m => if x < 0 then none else some (max m x)
def g3 (f : Nat → Int) (o : Option Int) : Nat → Option Int
  | 0 => o
  | b + 1 => gStep (g3 f o b) (f b)
def g2 (f : Nat → Nat → Int) (q : Nat) (o : Option Int) : Nat → Option Int
  | 0 => o
  | a + 1 => g3 (f a) (g2 f q o a) q
def g1 (f : Nat → Nat → Nat → Int) (q : Nat) : Nat → Option Int
  | 0 => some 0
  | s + 1 => g2 (f s) q (g1 f q s) q
/-- The greatest number, if each of these pairs has one. -/
def greatN (n q : Nat) (nx : Nat → Nat → Nat) (T : Nat → Nat → Int) : Option Int := g1 (fun s a b => T (nx s a) (nx s b)) q n

theorem g3_none (f : Nat → Int) (k : Nat) : g3 f none k = none := by induction k with
  | zero => rfl
  | succ k ih => rw [g3, ih]; rfl
theorem g3_stop {f : Nat → Int} {o : Option Int} {k q : Nat} (h : g3 f o k = none) (hk : k ≤ q) : g3 f o q = none := by
  induction q with
  | zero => have : k = 0 := by omega
            subst this; exact h
  | succ q ih =>
    by_cases e : k = q + 1
    · subst e; exact h
    · rw [g3, ih (by omega)]; rfl
theorem g2_stop {f : Nat → Nat → Int} {q : Nat} {o : Option Int} {k r : Nat} (h : g2 f q o k = none) (hk : k ≤ r) : g2 f q o r = none := by
  induction r with
  | zero => have : k = 0 := by omega
            subst this; exact h
  | succ r ih =>
    by_cases e : k = r + 1
    · subst e; exact h
    · rw [g2, ih (by omega), g3_none]
theorem g2_none (f : Nat → Nat → Int) (q k : Nat) : g2 f q none k = none := g2_stop (k := 0) rfl (Nat.zero_le _)
theorem g1_stop {f : Nat → Nat → Nat → Int} {q k n : Nat} (h : g1 f q k = none) (hk : k ≤ n) : g1 f q n = none := by
  induction n with
  | zero => have : k = 0 := by omega
            subst this; exact h
  | succ r ih =>
    by_cases e : k = r + 1
    · subst e; exact h
    · rw [g1, ih (by omega), g2_none]
def gAt (f : Nat → Nat → Nat → Int) (q s a b : Nat) : Option Int := g3 (f s a) (g2 (f s) q (g1 f q s) a) b
theorem gAt_next {f : Nat → Nat → Nat → Int} {q s a b : Nat} {m x : Int} (h : gAt f q s a b = some m) (hx : f s a b = x) (h0 : ¬ x < 0) : gAt f q s a (b + 1) = some (max m x) := by
  unfold gAt at *
  rw [g3, h, hx]
  simp [gStep, h0]
theorem gAt_fail {f : Nat → Nat → Nat → Int} {n q s a b : Nat} {m x : Int} (h : gAt f q s a b = some m) (hx : f s a b = x) (h0 : x < 0) (hs : s < n) (ha : a < q) (hb : b < q) : g1 f q n = none := by
  refine g1_stop (k := s + 1) ?_ hs
  show g2 (f s) q (g1 f q s) q = none
  refine g2_stop (k := a + 1) ?_ ha
  show g3 (f s a) (g2 (f s) q (g1 f q s) a) q = none
  refine g3_stop (k := b + 1) ?_ hb
  unfold gAt at h
  rw [g3, h, hx]
  simp [gStep, h0]
theorem g3_some {f : Nat → Int} {o : Option Int} {k : Nat} {m : Int} (h : g3 f o k = some m) : ∃ m0, o = some m0 ∧ m0 ≤ m ∧ ∀ b < k, 0 ≤ f b ∧ f b ≤ m := by
  induction k generalizing m with
  | zero => exact ⟨m, h, Int.le_refl _, fun b hb => by omega⟩
  | succ k ih =>
    rw [g3] at h
    cases hk : g3 f o k with
    | none => rw [hk] at h; cases h
    | some m' =>
      rw [hk] at h
      obtain ⟨m0, h1, h2, h3⟩ := ih hk
      by_cases hb : f k < 0
      · simp [gStep, hb] at h
      · simp only [gStep, hb, if_false, Option.some.injEq] at h
        refine ⟨m0, h1, by omega, fun b hb2 => ?_⟩
        by_cases e : b = k
        · subst e; omega
        · have := h3 b (by omega); omega
theorem g2_some {f : Nat → Nat → Int} {q : Nat} {o : Option Int} {k : Nat} {m : Int} (h : g2 f q o k = some m) : ∃ m0, o = some m0 ∧ m0 ≤ m ∧ ∀ a < k, ∀ b < q, 0 ≤ f a b ∧ f a b ≤ m := by
  induction k generalizing m with
  | zero => exact ⟨m, h, Int.le_refl _, fun b hb => by omega⟩
  | succ k ih =>
    rw [g2] at h
    obtain ⟨m1, h1, h2, h3⟩ := g3_some h
    obtain ⟨m0, h4, h5, h6⟩ := ih h1
    refine ⟨m0, h4, by omega, fun a ha b hb => ?_⟩
    by_cases e : a = k
    · subst e; exact h3 b hb
    · have := h6 a (by omega) b hb; omega
theorem g1_some {f : Nat → Nat → Nat → Int} {q k : Nat} {m : Int} (h : g1 f q k = some m) : 0 ≤ m ∧ ∀ s < k, ∀ a < q, ∀ b < q, 0 ≤ f s a b ∧ f s a b ≤ m := by
  induction k generalizing m with
  | zero => simp only [g1, Option.some.injEq] at h; exact ⟨by omega, fun b hb => by omega⟩
  | succ k ih =>
    rw [g1] at h
    obtain ⟨m1, h1, h2, h3⟩ := g2_some h
    obtain ⟨h4, h6⟩ := ih h1
    refine ⟨by omega, fun s hs a ha b hb => ?_⟩
    by_cases e : s = k
    · subst e; exact h3 a ha b hb
    · have := h6 s (by omega) a ha b hb; omega
/-- Only the numbers below count. -/
theorem g3_congr {f f' : Nat → Int} {o : Option Int} {k : Nat} (h : ∀ b < k, f b = f' b) : g3 f o k = g3 f' o k := by
  induction k with
  | zero => rfl
  | succ k ih => rw [g3, g3, ih (fun b hb => h b (by omega)), h k (by omega)]
theorem g2_congr {f f' : Nat → Nat → Int} {q : Nat} {o : Option Int} {k : Nat} (h : ∀ a < k, ∀ b < q, f a b = f' a b) : g2 f q o k = g2 f' q o k := by
  induction k with
  | zero => rfl
  | succ k ih => rw [g2, g2, ih (fun b hb => h b (by omega)), g3_congr (h k (by omega))]
theorem g1_congr {f f' : Nat → Nat → Nat → Int} {q k : Nat} (h : ∀ s < k, ∀ a < q, ∀ b < q, f s a b = f' s a b) : g1 f q k = g1 f' q k := by
  induction k with
  | zero => rfl
  | succ k ih => rw [g1, g1, ih (fun b hb => h b (by omega)), g2_congr (h k (by omega))]
/-- The numbers of a table are all the same. -/
theorem great_unique {n q : Nat} {nx : Nat → Nat → Nat} {T T' : Nat → Nat → Int} (hc : Closed n q nx) (h : IsTab n q nx T) (h' : IsTab n q nx T') : greatN n q nx T = greatN n q nx T' :=
  g1_congr fun s hs a ha b hb => tab_unique hc h h' _ (hc s hs a ha) _ (hc s hs b hb)

/-- The delay of a replaced letter is at most the greatest number; a word that is long enough has one. -/
theorem delay_bound {n q : Nat} {nx : Nat → Nat → Nat} {T : Nat → Nat → Int} {m : Int} (hcl : Closed n q nx) (hT : IsTab n q nx T) (h : greatN n q nx T = some m) {s a b : Nat} (hs : s < n) (ha : a < q) (hb : b < q) {l : List UInt8} (hd : ∀ c ∈ l, dig c < q) :
    (∀ k, agreeN nx (nx s a) (nx s b) l = some k → (k : Int) ≤ m) ∧ (m ≤ l.length → agreeN nx (nx s a) (nx s b) l ≠ none) := by
  obtain ⟨h0, h1⟩ := (g1_some h).2 s hs a ha b hb
  obtain ⟨h2, h3⟩ := agree_le hcl hT.toPreTab (hcl s hs a ha) (hcl s hs b hb) hd h0
  refine ⟨fun k hk => ?_, fun hm => h3 ?_⟩
  · have := h2 k hk; have h1 : T (nx s a) (nx s b) ≤ m := h1; omega
  · have h1 : T (nx s a) (nx s b) ≤ m := h1; omega
end Go.Proofs.Ytalklhjmnoodeaa
