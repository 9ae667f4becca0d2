/-
  Reading a word by a machine; the first number with a property; how long two machines are apart.
  No condition: plain laws.
-/
import Derived.Test.YtcdfghogmdhfcaaGreatDoorCodeLaw
import Derived.Test.YtcdfghogmdhfcaaGreatDoorMg4
namespace Go.Proofs.YtcdfghogmdhfcaaGreatDoor
open Go.RowKit

/-- The number of a letter as an index. -/
def dig (c : UInt8) : Nat := (digit c).toNat
theorem dig_lt {q : Int} {w : ByteArray} (h : okWord q w = true) {k : Nat} {c : UInt8} (hc : w.data.toList[k]? = some c) : dig c < q.toNat ∧ digit c = dig c ∧ dig c < 16 := by
  have h1 := okWord_at h (List.mem_of_getElem? hc)
  have h2 := digit_low c
  unfold dig
  omega

/-- The state behind a word. -/
def runN (nx : Nat → Nat → Nat) (s : Nat) (l : List UInt8) : Nat := l.foldl (fun s c => nx s (dig c)) s
theorem runN_snoc (nx : Nat → Nat → Nat) (s : Nat) (l : List UInt8) (c : UInt8) : runN nx s (l ++ [c]) = nx (runN nx s l) (dig c) := by simp [runN]
theorem runN_append (nx : Nat → Nat → Nat) (s : Nat) (l r : List UInt8) : runN nx s (l ++ r) = runN nx (runN nx s l) r := by simp [runN]
theorem runN_cons (nx : Nat → Nat → Nat) (s : Nat) (l : List UInt8) (c : UInt8) : runN nx s (c :: l) = runN nx (nx s (dig c)) l := rfl
theorem runN_lt {nx : Nat → Nat → Nat} {n s : Nat} {l : List UInt8} (hc : ∀ s a, nx s a < n) (hs : s < n) : runN nx s l < n := by
  induction l generalizing s with
  | nil => exact hs
  | cons c l ih => exact ih (hc _ _)
/-- The words that end in a word. -/
def emsN (nx : Nat → Nat → Nat) (em : Nat → Nat → Int) : Nat → List UInt8 → List Int
  | _, [] => []
  | s, c :: l => if 0 ≤ em s (dig c) then em s (dig c) :: emsN nx em (nx s (dig c)) l else emsN nx em (nx s (dig c)) l
theorem emsN_append (nx : Nat → Nat → Nat) (em : Nat → Nat → Int) (s : Nat) (l r : List UInt8) : emsN nx em s (l ++ r) = emsN nx em s l ++ emsN nx em (runN nx s l) r := by
  induction l generalizing s with
  | nil => rfl
  | cons c l ih =>
    rw [List.cons_append, emsN, emsN, ih, runN_cons]
    split <;> simp
theorem emsN_snoc (nx : Nat → Nat → Nat) (em : Nat → Nat → Int) (s : Nat) (l : List UInt8) (c : UInt8) : emsN nx em s (l ++ [c]) = if 0 ≤ em (runN nx s l) (dig c) then emsN nx em s l ++ [em (runN nx s l) (dig c)] else emsN nx em s l := by
  rw [emsN_append]
  show _ ++ (if _ then _ else _) = _
  split <;> simp [emsN]
theorem emsN_len (nx : Nat → Nat → Nat) (em : Nat → Nat → Int) (s : Nat) (l : List UInt8) : (emsN nx em s l).length ≤ l.length := by
  induction l generalizing s with
  | nil => simp [emsN]
  | cons c l ih =>
    rw [emsN]
    have := ih (nx s (dig c))
    split <;> simp only [List.length_cons] <;> omega

/-- The first number below another one with a property. -/
def firstN (f : Nat → Bool) : Nat → Option Nat
  | 0 => none
  | k + 1 => match firstN f k with
    | some n => some n
    | none => if f k then some k else none
theorem firstN_hit {f : Nat → Bool} {k m : Nat} (h0 : firstN f k = none) (h1 : f k = true) (hm : k < m) : firstN f m = some k := by
  induction m with
  | zero => omega
  | succ m ih =>
    rw [firstN]
    by_cases e : k = m
    · subst e; rw [h0]; simp [h1]
    · rw [ih (by omega)]
theorem firstN_miss {f : Nat → Bool} {k : Nat} (h0 : firstN f k = none) (h1 : f k = false) : firstN f (k + 1) = none := by rw [firstN, h0]; simp [h1]
theorem firstN_none {f : Nat → Bool} {m : Nat} : firstN f m = none ↔ ∀ j < m, f j = false := by
  induction m with
  | zero => simp [firstN]
  | succ m ih =>
    rw [firstN]
    cases h : firstN f m with
    | some n =>
      simp only [reduceCtorEq, false_iff]
      intro g
      rw [ih.2 (fun j hj => g j (by omega))] at h
      cases h
    | none =>
      have h2 := ih.1 h
      cases hf : f m with
      | true => simp only [if_true, reduceCtorEq, false_iff]; intro g; rw [g m (by omega)] at hf; cases hf
      | false =>
        simp only [Bool.false_eq_true, if_false, true_iff]
        intro j hj
        by_cases e : j = m
        · subst e; exact hf
        · exact h2 j (by omega)
theorem firstN_some {f : Nat → Bool} {m k : Nat} : firstN f m = some k ↔ k < m ∧ f k = true ∧ ∀ j < k, f j = false := by
  constructor
  · intro h
    induction m with
    | zero => cases h
    | succ m ih =>
      rw [firstN] at h
      cases h1 : firstN f m with
      | some n =>
        rw [h1] at h
        cases h
        have := ih h1
        exact ⟨by omega, this.2⟩
      | none =>
        rw [h1] at h
        by_cases hf : f m = true
        · simp only [hf, if_true, Option.some.injEq] at h
          subst h
          exact ⟨by omega, hf, firstN_none.1 h1⟩
        · simp [hf] at h
  · rintro ⟨h1, h2, h3⟩
    exact firstN_hit (firstN_none.2 h3) h2 h1

/-- Are two machines in the same state behind the first letters? -/
def agAt (nx : Nat → Nat → Nat) (s t : Nat) (l : List UInt8) (n : Nat) : Bool := runN nx s (l.take n) == runN nx t (l.take n)
/-- After how many letters they are for the first time. -/
def agreeN (nx : Nat → Nat → Nat) (s t : Nat) (l : List UInt8) : Option Nat := firstN (agAt nx s t l) (l.length + 1)
theorem ag_stay {nx : Nat → Nat → Nat} {s t : Nat} {l : List UInt8} {n m : Nat} (h : agAt nx s t l n = true) (hm : n ≤ m) : agAt nx s t l m = true := by
  have e : l.take m = l.take n ++ (l.drop n).take (m - n) := by
    rw [← List.take_add]; congr 1; omega
  unfold agAt at *
  rw [e, runN_append, runN_append, beq_iff_eq.1 h]
  simp
theorem tab_reach {n q : Nat} {nx : Nat → Nat → Nat} {T : Nat → Nat → Int} (hcl : Closed n q nx) (h : PreTab n q nx T) (v : Nat) (l : List UInt8) (hd : ∀ c ∈ l, dig c < q) (hv : v ≤ l.length) :
    ∀ s < n, ∀ t < n, T s t = v → ∃ k ≤ v, agAt nx s t l k = true := by
  induction v using Nat.strongRecOn generalizing l with
  | _ v ih =>
    intro s hs t ht e
    by_cases est : s = t
    · subst est; exact ⟨0, Nat.zero_le _, by simp [agAt]⟩
    · rcases h.num s hs t ht est with h1 | ⟨m, h1, h2⟩
      · omega
      · cases l with
        | nil =>
          have := (mostK_some h1).1
          simp at hv
          omega
        | cons c l =>
          have hq := hd c (by simp)
          obtain ⟨g0, g1⟩ := (mostK_some h1).2 _ hq
          obtain ⟨k, hk, hg⟩ := ih (T (nx s (dig c)) (nx t (dig c))).toNat (by omega) l (fun c hc => hd c (by simp [hc])) (by simp only [List.length_cons] at hv; omega) (nx s (dig c)) (hcl s hs _ hq) (nx t (dig c)) (hcl t ht _ hq) (by omega)
          exact ⟨k + 1, by omega, by simpa [agAt, runN_cons] using hg⟩
/-- The delay is at most the number of the pair; if the word is long enough, there is one. -/
theorem agree_le {n q : Nat} {nx : Nat → Nat → Nat} {T : Nat → Nat → Int} (hcl : Closed n q nx) (h : PreTab n q nx T) {s t : Nat} (hs : s < n) (ht : t < n) {l : List UInt8} (hd : ∀ c ∈ l, dig c < q) (h0 : 0 ≤ T s t) :
    (∀ k, agreeN nx s t l = some k → k ≤ T s t) ∧ (T s t ≤ l.length → agreeN nx s t l ≠ none) := by
  constructor
  · intro k hk
    obtain ⟨h1, h2, h3⟩ := firstN_some.1 hk
    by_cases g : (k : Int) ≤ T s t
    · exact g
    · obtain ⟨k', hk', hg⟩ := tab_reach hcl h (T s t).toNat l hd (by omega) s hs t ht (by omega)
      have := h3 k' (by omega)
      rw [hg] at this
      cases this
  · intro hl hn
    obtain ⟨k', hk', hg⟩ := tab_reach hcl h (T s t).toNat l hd (by omega) s hs t ht (by omega)
    have := firstN_none.1 hn k' (by omega)
    rw [hg] at this
    cases this
end Go.Proofs.YtcdfghogmdhfcaaGreatDoor
