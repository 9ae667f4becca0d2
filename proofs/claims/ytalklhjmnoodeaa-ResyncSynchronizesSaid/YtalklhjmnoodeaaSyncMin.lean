/-
  The word that the search finds leads from all states to the state 0, and no word before it does; if none is found, no word does.
  No condition: plain laws.
-/
import Derived.Test.YtalklhjmnoodeaaSyncLaw
namespace Go.Proofs.Ytalklhjmnoodeaa
open Go.RowKit

/-- The order of words of equal length, and of words: as lists of letters. -/
def lexL : List Nat → List Nat → Prop
  | a :: u, b :: v => a < b ∨ (a = b ∧ lexL u v)
  | _, _ => False
def slt (u v : List Nat) : Prop := u.length < v.length ∨ (u.length = v.length ∧ lexL u v)
def sle (u v : List Nat) : Prop := slt u v ∨ u = v
theorem lexL_irrefl (u : List Nat) : ¬ lexL u u := by
  induction u with
  | nil => simp [lexL]
  | cons a u ih => simp [lexL, ih]
theorem lexL_trans {u v w : List Nat} (h1 : lexL u v) (h2 : lexL v w) : lexL u w := by
  induction u generalizing v w with
  | nil => cases v <;> simp [lexL] at h1
  | cons a u ih =>
    cases v with
    | nil => simp [lexL] at h1
    | cons b v =>
      cases w with
      | nil => simp [lexL] at h2
      | cons c w =>
        simp only [lexL] at h1 h2 ⊢
        rcases h1 with h1 | ⟨rfl, h1⟩
        · rcases h2 with h2 | ⟨rfl, h2⟩
          · left; omega
          · left; omega
        · rcases h2 with h2 | ⟨rfl, h2⟩
          · left; omega
          · right; exact ⟨rfl, ih h1 h2⟩
theorem lexL_snoc {u v : List Nat} (h : lexL u v) (a b : Nat) : lexL (u ++ [a]) (v ++ [b]) := by
  induction u generalizing v with
  | nil => cases v <;> simp [lexL] at h
  | cons x u ih =>
    cases v with
    | nil => simp [lexL] at h
    | cons y v =>
      simp only [lexL, List.cons_append] at h ⊢
      rcases h with h | ⟨rfl, h⟩
      · left; exact h
      · right; exact ⟨rfl, ih h⟩
theorem lexL_last (u : List Nat) {a b : Nat} (h : a < b) : lexL (u ++ [a]) (u ++ [b]) := by
  induction u with
  | nil => simp [lexL, h]
  | cons x u ih => exact .inr ⟨rfl, ih⟩
theorem slt_irrefl (u : List Nat) : ¬ slt u u := by
  rintro (h | ⟨_, h⟩)
  · omega
  · exact lexL_irrefl _ h
theorem slt_trans {u v w : List Nat} (h1 : slt u v) (h2 : slt v w) : slt u w := by
  rcases h1 with h1 | ⟨e1, h1⟩
  · rcases h2 with h2 | ⟨e2, h2⟩
    · left; omega
    · left; omega
  · rcases h2 with h2 | ⟨e2, h2⟩
    · left; omega
    · right; exact ⟨by omega, lexL_trans h1 h2⟩
theorem sle_slt {u v w : List Nat} (h1 : sle u v) (h2 : slt v w) : slt u w := by
  rcases h1 with h1 | rfl
  · exact slt_trans h1 h2
  · exact h2
theorem sle_trans {u v w : List Nat} (h1 : sle u v) (h2 : sle v w) : sle u w := by
  rcases h2 with h2 | rfl
  · exact .inl (sle_slt h1 h2)
  · exact h1
theorem slt_snoc {u v : List Nat} (h : slt u v) (a b : Nat) : slt (u ++ [a]) (v ++ [b]) := by
  rcases h with h | ⟨e, h⟩
  · left; simp only [List.length_append, List.length_cons, List.length_nil]; omega
  · right; exact ⟨by simp only [List.length_append, e]; rfl, lexL_snoc h a b⟩
theorem slt_last (u : List Nat) {a b : Nat} (h : a < b) : slt (u ++ [a]) (u ++ [b]) := .inr ⟨by simp, lexL_last u h⟩
theorem slt_more (u : List Nat) (a : Nat) : slt u (u ++ [a]) := .inl (by simp)
theorem sle_snoc {u v : List Nat} (h : sle u v) (a : Nat) : sle (u ++ [a]) (v ++ [a]) := by
  rcases h with h | rfl
  · exact .inl (slt_snoc h a a)
  · exact .inr rfl

/-- The states to which a word leads from those of a set. -/
def imgL (nx : Nat → Nat → Nat) (n : Nat) (S : Nat) (u : List Nat) : Nat := u.foldl (fun S a => imgK nx S a n) S
theorem imgL_snoc (nx : Nat → Nat → Nat) (n S : Nat) (u : List Nat) (a : Nat) : imgL nx n S (u ++ [a]) = imgK nx (imgL nx n S u) a n := by simp [imgL]
def runD (nx : Nat → Nat → Nat) (s : Nat) (u : List Nat) : Nat := u.foldl nx s
theorem runD_lt {nx : Nat → Nat → Nat} {n s : Nat} (hc : ∀ s a, nx s a < n) (hs : s < n) (u : List Nat) : runD nx s u < n := by
  induction u generalizing s with
  | nil => exact hs
  | cons a u ih => exact ih (hc _ _)
theorem imgL_bit {nx : Nat → Nat → Nat} {n S t : Nat} (hc : ∀ s a, nx s a < n) (hS : ∀ s, S.testBit s = true → s < n) (u : List Nat) : (imgL nx n S u).testBit t = true ↔ ∃ s < n, S.testBit s = true ∧ runD nx s u = t := by
  induction u generalizing S with
  | nil =>
    show S.testBit t = true ↔ ∃ s < n, S.testBit s = true ∧ s = t
    constructor
    · intro h; exact ⟨t, hS t h, h, rfl⟩
    · rintro ⟨s, _, h, rfl⟩; exact h
  | cons a u ih =>
    have hI : ∀ s, (imgK nx S a n).testBit s = true → s < n := by
      intro s hs
      obtain ⟨s', _, _, e⟩ := imgK_bit.1 hs
      rw [← e]; exact hc _ _
    show (imgL nx n (imgK nx S a n) u).testBit t = true ↔ _
    rw [ih hI]
    constructor
    · rintro ⟨s, hs, hb, hr⟩
      obtain ⟨s', hs', hb', e⟩ := imgK_bit.1 hb
      exact ⟨s', hs', hb', by show runD nx (nx s' a) u = t; rw [e]; exact hr⟩
    · rintro ⟨s, hs, hb, hr⟩
      exact ⟨nx s a, hc _ _, imgK_bit.2 ⟨s, hs, hb, rfl⟩, hr⟩
theorem full_bit (n s : Nat) : (2 ^ n - 1).testBit s = true ↔ s < n := by simp [Nat.testBit_two_pow_sub_one]
/-- A word leads from all states to 0. -/
theorem reset_iff {nx : Nat → Nat → Nat} {n : Nat} (hc : ∀ s a, nx s a < n) (h0 : 0 < n) (u : List Nat) : imgL nx n (2 ^ n - 1) u = 1 ↔ ∀ s < n, runD nx s u = 0 := by
  have hb := fun t => imgL_bit (S := 2 ^ n - 1) (t := t) hc (fun s h => (full_bit n s).1 h) u
  constructor
  · intro h s hs
    have := (hb (runD nx s u)).2 ⟨s, hs, (full_bit n s).2 hs, rfl⟩
    rw [h] at this
    simpa [Nat.testBit_one_eq_true_iff_self_eq_zero] using this
  · intro h
    apply Nat.eq_of_testBit_eq
    intro t
    rw [Bool.eq_iff_iff, hb t]
    constructor
    · rintro ⟨s, hs, _, e⟩
      rw [h s hs] at e
      subst e; rfl
    · intro ht
      have ht0 : t = 0 := by simpa [Nat.testBit_one_eq_true_iff_self_eq_zero] using ht
      exact ⟨0, h0, (full_bit n 0).2 h0, by rw [h 0 h0, ht0]⟩

/-- The search, about to try the letter a behind the entry i. -/
structure BInv (nx : Nat → Nat → Nat) (n q i a : Nat) (Q : List Ent) : Prop where
  start : Q[0]? = some ⟨2 ^ n - 1, []⟩
  ent : ∀ e ∈ Q, e.set = imgL nx n (2 ^ n - 1) e.word ∧ ∀ b ∈ e.word, b < q
  asc : Q.Pairwise fun x y => slt x.word y.word
  cand : ∀ x, Q[i]? = some x → ∀ e ∈ Q, slt e.word (x.word ++ [a])
  exp : ∀ j b x, (j < i ∨ (j = i ∧ b < a)) → b < q → Q[j]? = some x → ∃ e ∈ Q, e.set = imgK nx x.set b n ∧ sle e.word (x.word ++ [b])
  no1 : ∀ j < i, ∀ x, Q[j]? = some x → x.set ≠ 1
  len : ∀ (k : Nat) (e : Ent), Q[k]? = some e → e.word.length ≤ k
theorem binv_start (nx : Nat → Nat → Nat) (n q : Nat) : BInv nx n q 0 0 (startQ n) := by
  refine ⟨rfl, ?_, by simp [startQ], ?_, ?_, fun j hj => by omega, ?_⟩
  · intro e he
    simp only [startQ, List.mem_singleton] at he
    subst he
    exact ⟨rfl, fun b hb => by cases hb⟩
  · intro x hx e he
    simp only [startQ, List.mem_singleton] at he
    simp only [startQ, List.getElem?_cons_zero, Option.some.injEq] at hx
    subst he
    rw [← hx]
    exact slt_more _ _
  · intro j b x hj; omega
  · intro k e hk
    have hl := lt_of_some hk
    simp only [startQ, List.length_cons, List.length_nil] at hl
    have : k = 0 := by omega
    subst this
    simp only [startQ, List.getElem?_cons_zero, Option.some.injEq] at hk
    rw [← hk]; simp
theorem binv_letter {nx : Nat → Nat → Nat} {n q i a : Nat} {Q : List Ent} {x : Ent} (h : BInv nx n q i a Q) (hx : Q[i]? = some x) (ha : a < q) :
    BInv nx n q i (a + 1) (if seenQ Q (imgK nx x.set a n) then Q else Q ++ [⟨imgK nx x.set a n, x.word ++ [a]⟩]) := by
  have hc := h.cand x hx
  by_cases hs : seenQ Q (imgK nx x.set a n) = true
  · rw [if_pos hs]
    refine ⟨h.start, h.ent, h.asc, ?_, ?_, h.no1, h.len⟩
    · intro y hy e he
      rw [hx] at hy; cases hy
      exact slt_trans (hc e he) (slt_last _ (by omega))
    · intro j b y hj hb hy
      by_cases e : j = i ∧ b = a
      · obtain ⟨rfl, rfl⟩ := e
        rw [hx] at hy; cases hy
        obtain ⟨e, he, hse⟩ := seenQ_iff.1 hs
        exact ⟨e, he, hse, .inl (hc e he)⟩
      · exact h.exp j b y (by omega) hb hy
  · rw [if_neg hs]
    have hlt := lt_of_some hx
    have hget : ∀ j y, (Q ++ [(⟨imgK nx x.set a n, x.word ++ [a]⟩ : Ent)])[j]? = some y → j ≤ i → Q[j]? = some y := by
      intro j y hy hj
      rwa [List.getElem?_append_left (by omega)] at hy
    have hxq := h.ent x (List.mem_of_getElem? hx)
    refine ⟨?_, ?_, ?_, ?_, ?_, ?_, ?_⟩
    · rw [List.getElem?_append_left (by omega)]; exact h.start
    · intro e he
      rcases List.mem_append.1 he with he | he
      · exact h.ent e he
      · simp only [List.mem_singleton] at he
        subst he
        refine ⟨by show imgK nx x.set a n = _; rw [imgL_snoc, hxq.1], fun b hb => ?_⟩
        rcases List.mem_append.1 hb with hb | hb
        · exact hxq.2 b hb
        · simp only [List.mem_singleton] at hb; omega
    · rw [List.pairwise_append]
      refine ⟨h.asc, by simp, fun e he y hy => ?_⟩
      simp only [List.mem_singleton] at hy
      subst hy
      exact hc e he
    · intro y hy e he
      have hy := hget i y hy (Nat.le_refl _)
      rw [hx] at hy; cases hy
      rcases List.mem_append.1 he with he | he
      · exact slt_trans (hc e he) (slt_last _ (by omega))
      · simp only [List.mem_singleton] at he
        subst he
        exact slt_last _ (by omega)
    · intro j b y hj hb hy
      have hy2 := hget j y hy (by omega)
      by_cases e : j = i ∧ b = a
      · obtain ⟨rfl, rfl⟩ := e
        rw [hx] at hy2; cases hy2
        exact ⟨_, List.mem_append.2 (.inr (List.mem_singleton.2 rfl)), rfl, .inr rfl⟩
      · obtain ⟨e, he, h1, h2⟩ := h.exp j b y (by omega) hb hy2
        exact ⟨e, List.mem_append.2 (.inl he), h1, h2⟩
    · intro j hj y hy
      exact h.no1 j hj y (hget j y hy (by omega))
    · intro k e hk
      by_cases hkl : k < Q.length
      · rw [List.getElem?_append_left hkl] at hk
        exact h.len k e hk
      · have hl := lt_of_some hk
        simp only [List.length_append, List.length_cons, List.length_nil] at hl
        have e1 : k = Q.length := by omega
        subst e1
        rw [List.getElem?_append_right (Nat.le_refl _), Nat.sub_self, List.getElem?_cons_zero, Option.some.injEq] at hk
        have := h.len i x hx
        rw [← hk, List.length_append, List.length_singleton]
        omega
theorem binv_expand {nx : Nat → Nat → Nat} {n q i : Nat} {Q : List Ent} {x : Ent} (h : BInv nx n q i 0 Q) (hx : Q[i]? = some x) (k : Nat) (hk : k ≤ q) : BInv nx n q i k (expandK nx n Q x k) ∧ (expandK nx n Q x k)[i]? = some x := by
  induction k with
  | zero => exact ⟨h, hx⟩
  | succ k ih =>
    obtain ⟨h1, h2⟩ := ih (by omega)
    have := binv_letter h1 h2 (by omega)
    rw [expandK]
    refine ⟨this, ?_⟩
    split
    · exact h2
    · rw [List.getElem?_append_left (lt_of_some h2)]; exact h2
theorem binv_next {nx : Nat → Nat → Nat} {n q i : Nat} {Q : List Ent} {x : Ent} (h : BInv nx n q i q Q) (hx : Q[i]? = some x) (h1 : x.set ≠ 1) : BInv nx n q (i + 1) 0 Q := by
  refine ⟨h.start, h.ent, h.asc, ?_, ?_, ?_, h.len⟩
  · intro y hy e he
    have hlt := lt_of_some hy
    have hxy : slt x.word y.word := by
      have := List.pairwise_iff_getElem.1 h.asc i (i + 1) (by omega) hlt (by omega)
      rw [List.getElem?_eq_getElem (by omega), Option.some.injEq] at hx hy
      rwa [hx, hy] at this
    exact slt_trans (h.cand x hx e he) (slt_snoc hxy _ _)
  · intro j b y hj hb hy
    exact h.exp j b y (by omega) hb hy
  · intro j hj y hy
    by_cases e : j = i
    · subst e
      rw [hx] at hy; cases hy
      exact h1
    · exact h.no1 j (by omega) y hy
/-- What the search ends with. -/
theorem bfs_inv {nx : Nat → Nat → Nat} {n q : Nat} (hc : ∀ s a, nx s a < n) (f i : Nat) (Q : List Ent) (h : BInv nx n q i 0 Q) (hg : GoodQ n Q) (hf : f + i = 2 ^ n + 1) :
    (∀ w, bfs nx n q f i Q = some w → ∃ i' Q' x, BInv nx n q i' 0 Q' ∧ GoodQ n Q' ∧ Q'[i']? = some x ∧ x.set = 1 ∧ x.word = w) ∧ (bfs nx n q f i Q = none → ∃ i' Q', BInv nx n q i' 0 Q' ∧ Q'.length ≤ i') := by
  induction f generalizing i Q with
  | zero =>
    have := goodQ_len hg
    exact ⟨fun w hw => (by rw [bfs] at hw; cases hw), fun _ => ⟨i, Q, h, by omega⟩⟩
  | succ f ih =>
    cases hQ : Q[i]? with
    | none =>
      have hl : Q.length ≤ i := by rw [List.getElem?_eq_none_iff] at hQ; exact hQ
      rw [bfs_end hl]
      exact ⟨fun w hw => (by cases hw), fun _ => ⟨i, Q, h, hl⟩⟩
    | some x =>
      by_cases h1 : x.set = 1
      · rw [bfs_hit hQ h1]
        exact ⟨fun w hw => ⟨i, Q, x, h, hg, hQ, h1, (by cases hw; rfl)⟩, fun hn => (by cases hn)⟩
      · rw [bfs_step hQ h1]
        obtain ⟨h2, h3⟩ := binv_expand h hQ q (Nat.le_refl _)
        exact ih (i + 1) _ (binv_next h2 h3 h1) (goodQ_expand hc hg x q) (by omega)
/-- Each word before the entry i leads to a set that was reached by a word not behind it. -/
theorem least_before {nx : Nat → Nat → Nat} {n q i : Nat} {Q : List Ent} (h : BInv nx n q i 0 Q) (m : Nat) : ∀ u : List Nat, u.length = m → (∀ b ∈ u, b < q) → (∀ x, Q[i]? = some x → slt u x.word) →
    ∃ j < i, ∃ e, Q[j]? = some e ∧ e.set = imgL nx n (2 ^ n - 1) u ∧ sle e.word u := by
  induction m with
  | zero =>
    intro u hu _ hx
    have e : u = [] := List.length_eq_zero_iff.1 hu
    subst e
    by_cases hi : i = 0
    · subst hi
      exact absurd (hx _ h.start) (slt_irrefl _)
    · exact ⟨0, by omega, _, h.start, rfl, .inr rfl⟩
  | succ m ih =>
    intro u hu hb hx
    obtain ⟨v, a, rfl⟩ : ∃ v a, u = v ++ [a] := by
      rcases List.eq_nil_or_concat u with rfl | ⟨v, a, e⟩
      · simp at hu
      · exact ⟨v, a, by simpa using e⟩
    have hlv : v.length = m := by simp at hu; omega
    obtain ⟨j, hj, e, he, hs, hw⟩ := ih v hlv (fun b hb' => hb b (by simp [hb'])) (fun x hQ => slt_trans (slt_more v a) (hx x hQ))
    obtain ⟨e2, he2, hs2, hw2⟩ := h.exp j a e (.inl hj) (hb a (by simp)) he
    have hle : sle e2.word (v ++ [a]) := sle_trans hw2 (sle_snoc hw a)
    obtain ⟨k, hk⟩ := List.getElem?_of_mem he2
    refine ⟨k, ?_, e2, hk, by rw [hs2, imgL_snoc, hs], hle⟩
    have hkl := lt_of_some hk
    by_cases hki : k < i
    · exact hki
    · have hil : i < Q.length := by omega
      have hQi : Q[i]? = some Q[i] := List.getElem?_eq_getElem hil
      have h1 := sle_slt hle (hx _ hQi)
      by_cases hik : k = i
      · subst hik
        rw [hk, Option.some.injEq] at hQi
        rw [← hQi] at h1
        exact absurd h1 (slt_irrefl _)
      · have h2 := List.pairwise_iff_getElem.1 h.asc i k hil hkl (by omega)
        rw [List.getElem?_eq_getElem hkl, Option.some.injEq] at hk
        rw [hk] at h2
        exact absurd (slt_trans h1 h2) (slt_irrefl _)
/-- The word that is found, and no word before it. -/
theorem sync_some {nx : Nat → Nat → Nat} {n q : Nat} (hc : ∀ s a, nx s a < n) (h0 : 0 < n) {w : List Nat} (h : syncN nx n q = some w) :
    (∀ s < n, runD nx s w = 0) ∧ (∀ b ∈ w, b < q) ∧ w.length < 2 ^ n ∧ ∀ u : List Nat, (∀ b ∈ u, b < q) → (∀ s < n, runD nx s u = 0) → ¬ slt u w := by
  obtain ⟨i, Q, x, hi, hgq, hx, h1, rfl⟩ := (bfs_inv hc (2 ^ n + 1) 0 (startQ n) (binv_start nx n q) (goodQ_start n) (by omega)).1 w h
  have hxe := hi.ent x (List.mem_of_getElem? hx)
  refine ⟨(reset_iff hc h0 _).1 (hxe.1.symm.trans h1), hxe.2, by have h2 := hi.len i x hx; have h3 := lt_of_some hx; have h4 := goodQ_len hgq; omega, fun u hu hr hlt => ?_⟩
  obtain ⟨j, hj, e, he, hs, _⟩ := least_before hi u.length u rfl hu (fun y hy => by rw [hx] at hy; cases hy; exact hlt)
  exact hi.no1 j hj e he (hs.trans ((reset_iff hc h0 u).2 hr))
theorem sync_none {nx : Nat → Nat → Nat} {n q : Nat} (hc : ∀ s a, nx s a < n) (h0 : 0 < n) (h : syncN nx n q = none) (u : List Nat) (hu : ∀ b ∈ u, b < q) : ¬ ∀ s < n, runD nx s u = 0 := by
  intro hr
  obtain ⟨i, Q, hi, hl⟩ := (bfs_inv hc (2 ^ n + 1) 0 (startQ n) (binv_start nx n q) (goodQ_start n) (by omega)).2 h
  obtain ⟨j, hj, e, he, hs, _⟩ := least_before hi u.length u rfl hu (fun y hy => by rw [List.getElem?_eq_none hl] at hy; cases hy)
  exact hi.no1 j hj e he (hs.trans ((reset_iff hc h0 u).2 hr))
end Go.Proofs.Ytalklhjmnoodeaa
