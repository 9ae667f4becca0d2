/-
  Sets of states as numbers, and the search for the first word that leads from all states to the state 0.
  No condition: plain laws.
-/
import Derived.Test.YtalklhjmnoodeaaRunLaw
namespace Go.Proofs.Ytalklhjmnoodeaa
open Go.RowKit

/-- The states to which a letter leads from those of a set that are below k. -/
def imgK (nx : Nat → Nat → Nat) (set a : Nat) : Nat → Nat
  | 0 => 0
  | s + 1 => if set / 2 ^ s % 2 = 1 then imgK nx set a s ||| 2 ^ nx s a else imgK nx set a s
theorem imgK_lt {nx : Nat → Nat → Nat} {n : Nat} (hc : ∀ s a, nx s a < n) (set a k : Nat) : imgK nx set a k < 2 ^ n := by
  induction k with
  | zero => exact Nat.two_pow_pos n
  | succ k ih =>
    rw [imgK]
    split
    · exact Nat.or_lt_two_pow ih (Nat.pow_lt_pow_right (by decide) (hc _ _))
    · exact ih
theorem imgK_bit {nx : Nat → Nat → Nat} {set a k t : Nat} : (imgK nx set a k).testBit t = true ↔ ∃ s < k, set.testBit s = true ∧ nx s a = t := by
  induction k with
  | zero => simp [imgK]
  | succ k ih =>
    have hb : set.testBit k = true ↔ set / 2 ^ k % 2 = 1 := by rw [Nat.testBit_eq_decide_div_mod_eq]; simp
    rw [imgK]
    split
    · rename_i h
      rw [Nat.testBit_or, Bool.or_eq_true, ih, Nat.testBit_two_pow]
      constructor
      · rintro (⟨s, h1, h2⟩ | h1)
        · exact ⟨s, by omega, h2⟩
        · exact ⟨k, by omega, hb.2 h, by simpa using h1⟩
      · rintro ⟨s, h1, h2, h3⟩
        by_cases e : s = k
        · subst e; exact .inr (by simpa using h3)
        · exact .inl ⟨s, by omega, h2, h3⟩
    · rename_i h
      rw [ih]
      constructor
      · rintro ⟨s, h1, h2⟩; exact ⟨s, by omega, h2⟩
      · rintro ⟨s, h1, h2, h3⟩
        by_cases e : s = k
        · subst e; exact absurd (hb.1 h2) h
        · exact ⟨s, by omega, h2, h3⟩

/-- A set that was reached, with the letters that led to it. -/
structure Ent where
  set : Nat
  word : List Nat
/-- Is a set among those that were reached? -/
def seenQ (Q : List Ent) (x : Nat) : Bool := Q.any (fun e => e.set == x)
theorem seenQ_iff {Q : List Ent} {x : Nat} : seenQ Q x = true ↔ ∃ e ∈ Q, e.set = x := by simp [seenQ]
theorem seenQ_snoc (Q : List Ent) (e : Ent) (x : Nat) : seenQ (Q ++ [e]) x = (seenQ Q x || (e.set == x)) := by simp [seenQ]
def expandK (nx : Nat → Nat → Nat) (n : Nat) (Q : List Ent) (x : Ent) : Nat → List Ent
  | 0 => Q
  | a + 1 => if seenQ (expandK nx n Q x a) (imgK nx x.set a n) then expandK nx n Q x a else expandK nx n Q x a ++ [⟨imgK nx x.set a n, x.word ++ [a]⟩]
def bfs (nx : Nat → Nat → Nat) (n q : Nat) : Nat → Nat → List Ent → Option (List Nat)
  | 0, _, _ => none
  | f + 1, i, Q => match Q[i]? with
    | none => none
    | some x => if x.set = 1 then some x.word else bfs nx n q f (i + 1) (expandK nx n Q x q)
def startQ (n : Nat) : List Ent := [⟨2 ^ n - 1, []⟩]
/-- The first word that leads from all states to the state 0. -/
def syncN (nx : Nat → Nat → Nat) (n q : Nat) : Option (List Nat) := bfs nx n q (2 ^ n + 1) 0 (startQ n)

/-- The sets that were reached are all different. -/
structure GoodQ (n : Nat) (Q : List Ent) : Prop where
  lt : ∀ e ∈ Q, e.set < 2 ^ n
  nodup : (Q.map (·.set)).Nodup
theorem goodQ_start (n : Nat) : GoodQ n (startQ n) := ⟨by intro e he; simp only [startQ, List.mem_singleton] at he; subst he; have := Nat.two_pow_pos n; show 2 ^ n - 1 < 2 ^ n; omega, by simp [startQ]⟩
theorem goodQ_snoc {n : Nat} {Q : List Ent} {e : Ent} (h : GoodQ n Q) (he : e.set < 2 ^ n) (hs : seenQ Q e.set = false) : GoodQ n (Q ++ [e]) := by
  refine ⟨fun x hx => ?_, ?_⟩
  · rcases List.mem_append.1 hx with h1 | h1
    · exact h.lt x h1
    · simp only [List.mem_singleton] at h1; subst h1; exact he
  · rw [List.map_append, List.nodup_append]
    refine ⟨h.nodup, by simp, ?_⟩
    intro a ha b hb hab
    simp only [List.map_cons, List.map_nil, List.mem_singleton] at hb
    rw [hb] at hab
    subst hab
    obtain ⟨x, hx, hxe⟩ := List.mem_map.1 ha
    have := seenQ_iff.2 ⟨x, hx, hxe⟩
    rw [hs] at this
    cases this
theorem goodQ_expand {nx : Nat → Nat → Nat} {n : Nat} (hc : ∀ s a, nx s a < n) {Q : List Ent} (h : GoodQ n Q) (x : Ent) (k : Nat) : GoodQ n (expandK nx n Q x k) := by
  induction k with
  | zero => exact h
  | succ k ih =>
    rw [expandK]
    split
    · exact ih
    · rename_i hs
      exact goodQ_snoc ih (imgK_lt hc _ _ _) (by simpa using hs)
theorem nodup_len {l : List Nat} {m : Nat} (hn : l.Nodup) (hl : ∀ x ∈ l, x < m) : l.length ≤ m := by
  have := mem_sub (l := l.map (fun (x : Nat) => (x : Int))) (l' := (List.range m).map (fun (x : Nat) => (x : Int))) (by
    rw [List.Nodup, List.pairwise_map]
    exact hn.imp fun {a b} hab e => hab (Int.ofNat_inj.1 e)) (by
    intro y hy
    obtain ⟨x, hx, rfl⟩ := List.mem_map.1 hy
    exact List.mem_map.2 ⟨x, List.mem_range.2 (hl x hx), rfl⟩)
  simpa using this
theorem goodQ_len {n : Nat} {Q : List Ent} (h : GoodQ n Q) : Q.length ≤ 2 ^ n := by
  have := nodup_len h.nodup (m := 2 ^ n) (by
    intro x hx
    obtain ⟨e, he, rfl⟩ := List.mem_map.1 hx
    exact h.lt e he)
  simpa using this
theorem expandK_pre (nx : Nat → Nat → Nat) (n : Nat) (Q : List Ent) (x : Ent) (k : Nat) : ∃ r, expandK nx n Q x k = Q ++ r := by
  induction k with
  | zero => exact ⟨[], by simp [expandK]⟩
  | succ k ih =>
    obtain ⟨r, hr⟩ := ih
    rw [expandK]
    split
    · exact ⟨r, hr⟩
    · exact ⟨_, by rw [hr, List.append_assoc]⟩
theorem bfs_step {nx : Nat → Nat → Nat} {n q f i : Nat} {Q : List Ent} {x : Ent} (h : Q[i]? = some x) (h1 : x.set ≠ 1) : bfs nx n q (f + 1) i Q = bfs nx n q f (i + 1) (expandK nx n Q x q) := by
  rw [bfs, h]; simp [h1]
theorem bfs_hit {nx : Nat → Nat → Nat} {n q f i : Nat} {Q : List Ent} {x : Ent} (h : Q[i]? = some x) (h1 : x.set = 1) : bfs nx n q (f + 1) i Q = some x.word := by
  rw [bfs, h]; simp [h1]
theorem bfs_end {nx : Nat → Nat → Nat} {n q f i : Nat} {Q : List Ent} (h : Q.length ≤ i) : bfs nx n q f i Q = none := by
  cases f with
  | zero => rfl
  | succ f => rw [bfs, List.getElem?_eq_none h]
end Go.Proofs.Ytalklhjmnoodeaa
