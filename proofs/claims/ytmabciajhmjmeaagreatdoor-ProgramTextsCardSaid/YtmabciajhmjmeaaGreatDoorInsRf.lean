/-
  The reference's way to read a text, line by line, as a plain function, says what the split says.
  No condition: no program in sight.
-/
import Derived.Test.YtmabciajhmjmeaaGreatDoorInsNum
import Derived.Test.YtmabciajhmjmeaaGreatDoorInsSt
namespace Go.Proofs.YtmabciajhmjmeaaGreatDoor
open Go.RowKit
set_option linter.unusedVariables false

/-- The lines behind the first, the last one being what stands behind the last letter of a line's end. -/
def bodyT : List (List UInt8) → Option (List Ins × List Nat)
  | [] => none
  | [_] => none
  | f :: g :: t => match readT f with
    | none => none
    | some (w, l) => if w = wOut then (if g = [] ∧ t = [] then some ([], l) else none) else match insOf (w, l), bodyT (g :: t) with
      | some x, some (c, o) => some (x :: c, o)
      | _, _ => none
def fullT : List (List UInt8) → Option (Nat × List Ins × List Nat)
  | [] => none
  | [_] => none
  | f :: g :: t => match readT f, bodyT (g :: t) with
    | some (w, [n]), some (c, o) => if w = wProg then some (n, c, o) else none
    | _, _ => none
theorem ins_out (l : List Nat) : insOf (wOut, l) = none := insOf_none (.inl (by decide))
theorem bodyT_open : ∀ (L : List (List UInt8)) (h : L ≠ []), L.getLast h ≠ [] → bodyT L = none
  | [a], _, _ => rfl
  | f :: g :: t, h, hl => by
    have hl2 : (g :: t).getLast (by simp) ≠ [] := by simpa [List.getLast_cons] using hl
    have ih := bodyT_open (g :: t) (by simp) hl2
    rw [bodyT, ih]
    cases readT f with
    | none => rfl
    | some r =>
      obtain ⟨w, l⟩ := r
      simp only
      split
      · rw [if_neg]
        rintro ⟨rfl, rfl⟩
        exact hl2 rfl
      · cases insOf (w, l) <;> rfl
theorem bodyT_shut : ∀ (M : List (List UInt8)) (h : M ≠ []), bodyT (M ++ [[]]) = match codeT M.dropLast, readT (M.getLast h) with
    | some c, some (w, o) => if w = wOut then some (c, o) else none
    | _, _ => none
  | [f], _ => by
    show bodyT [f, []] = _
    rw [bodyT]
    show _ = match codeT [], readT f with | some c, some (w, o) => if w = wOut then some (c, o) else none | _, _ => none
    cases readT f with
    | none => rfl
    | some r =>
      obtain ⟨w, l⟩ := r
      simp only [codeT]
      by_cases hw : w = wOut
      · rw [if_pos hw, if_pos hw, if_pos (by simp)]
      · rw [if_neg hw, if_neg hw]
        cases insOf (w, l) <;> rfl
  | f :: g :: t, h => by
    have ih := bodyT_shut (g :: t) (by simp)
    obtain ⟨a, b, hab⟩ : ∃ a b, (g :: t) ++ [[]] = a :: b := ⟨g, t ++ [[]], rfl⟩
    have hb : b ≠ [] := by
      have : b = t ++ [[]] := by simpa using congrArg List.tail hab.symm
      rw [this]; simp
    show bodyT (f :: ((g :: t) ++ [[]])) = _
    rw [hab] at ih ⊢
    rw [bodyT, ih]
    have e1 : (f :: g :: t).dropLast = f :: (g :: t).dropLast := rfl
    have e2 : (f :: g :: t).getLast h = (g :: t).getLast (by simp) := List.getLast_cons (by simp)
    rw [e1, e2, codeT]
    generalize codeT (g :: t).dropLast = C
    generalize readT ((g :: t).getLast (by simp)) = R
    cases hr : readT f with
    | none => rw [lineI_read hr]
    | some r =>
      obtain ⟨w, l⟩ := r
      rw [lineI_of hr]
      simp only
      by_cases hw : w = wOut
      · subst hw
        rw [if_pos rfl, if_neg (by rintro ⟨_, h2⟩; exact hb h2), ins_out]
      · rw [if_neg hw]
        cases insOf (w, l) with
        | none => rfl
        | some x =>
          cases C with
          | none => rfl
          | some c =>
            cases R with
            | none => rfl
            | some q =>
              obtain ⟨v, o⟩ := q
              simp only
              by_cases hv : v = wOut
              · rw [if_pos hv, if_pos hv]
              · rw [if_neg hv, if_neg hv]
theorem splt_ends (b : List UInt8) : splt 10 (b ++ [10]) = splt 10 b ++ [[]] := by
  induction b with
  | nil => rfl
  | cons x b ih =>
    obtain ⟨h, t, e⟩ := splt_some 10 b
    by_cases hx : x = 10
    · subst hx
      rw [List.cons_append, splt_eq, splt_eq, ih]; rfl
    · rw [e] at ih
      rw [List.cons_append, splt_ne hx ih, splt_ne hx e]; rfl
theorem splt_ne_nil (c : UInt8) (l : List UInt8) : splt c l ≠ [] := by
  obtain ⟨h, t, e⟩ := splt_some c l
  rw [e]; simp
theorem last_open : ∀ (s : List UInt8), s ≠ [] → Lib.hasSuffix s [10] = false → (splt 10 s).getLast (splt_ne_nil 10 s) ≠ []
  | [], h, _ => absurd rfl h
  | x :: s, _, hs => by
    obtain ⟨h, t, e⟩ := splt_some 10 s
    have hlast : ∀ (L M : List (List UInt8)) (hL : L ≠ []) (hM : M ≠ []), L = M → L.getLast hL = M.getLast hM := by rintro L M _ _ rfl; rfl
    by_cases h0 : s = []
    · subst h0
      have hx : x ≠ 10 := by rintro rfl; revert hs; decide
      rw [hlast _ [[x]] (splt_ne_nil 10 _) (by simp) (splt_word (by simp [Ne.symm hx]))]
      simp
    · have hs2 : Lib.hasSuffix s [10] = false := by
        rw [Bool.eq_false_iff] at hs ⊢
        intro h2
        refine hs ?_
        unfold Lib.hasSuffix at h2 ⊢
        rw [List.isSuffixOf_iff_suffix] at h2 ⊢
        exact h2.trans (List.suffix_cons x s)
      have ih := last_open s h0 hs2
      rw [hlast _ _ _ (by simp) e] at ih
      by_cases hx : x = 10
      · subst hx
        rw [hlast _ ([] :: h :: t) (splt_ne_nil 10 _) (by simp) (by rw [splt_eq, e]), List.getLast_cons (by simp)]
        exact ih
      · rw [hlast _ ((x :: h) :: t) (splt_ne_nil 10 _) (by simp) (splt_ne hx e)]
        cases t with
        | nil => simp
        | cons b t =>
          rw [List.getLast_cons (by simp)]
          rw [List.getLast_cons (by simp)] at ih
          exact ih
theorem parseT_full (s : List UInt8) : parseT s = fullT (splt 10 s) := by
  unfold parseT
  cases hs : Lib.hasSuffix s [10]
  · rw [if_neg (by simp)]
    by_cases h0 : s = []
    · subst h0; rfl
    have hl := last_open s h0 hs
    generalize splt_ne_nil 10 s = hne at hl
    match splt 10 s, hne, hl with
    | [], hne, _ => exact absurd rfl hne
    | [a], _, _ => rfl
    | f :: g :: t, _, hl =>
      rw [fullT, bodyT_open (g :: t) (by simp) (by simpa [List.getLast_cons] using hl)]
      split
      · rename_i h; cases h
      · rfl
  · rw [if_pos rfl]
    have hb : s = Lib.trimSuffix s [10] ++ [10] := by
      rw [Lib.trimSuffix, hs, if_pos rfl]
      unfold Lib.hasSuffix at hs
      obtain ⟨r, rfl⟩ := List.isSuffixOf_iff_suffix.1 hs
      simp
    generalize Lib.trimSuffix s [10] = b at hb ⊢
    subst hb
    rw [splt_ends]
    match splt 10 b, splt_ne_nil 10 b with
    | [], h => exact absurd rfl h
    | [a], _ => show linesT [a] = fullT [a, []]; rw [fullT, bodyT]; simp only [linesT]; split <;> first | rfl | (rename_i h; cases h)
    | f :: g :: t, _ =>
      show _ = fullT (f :: g :: (t ++ [[]]))
      rw [fullT]
      have := bodyT_shut (g :: t) (by simp)
      rw [List.cons_append] at this
      rw [this, linesT]
      generalize codeT (g :: t).dropLast = C
      generalize readT ((g :: t).getLast (by simp)) = R
      cases readT f with
      | none => rfl
      | some r =>
        obtain ⟨w, l⟩ := r
        match l with
        | [] => rfl
        | _ :: _ :: _ => rfl
        | [n] =>
          cases C with
          | none => rfl
          | some c =>
            cases R with
            | none => rfl
            | some q =>
              obtain ⟨v, o⟩ := q
              simp only
              by_cases hv : v = wOut
              · rw [if_pos hv]
                by_cases hw : w = wProg
                · simp [hv, hw]
                · simp [hw]
              · rw [if_neg hv]
                simp [hv]
/-- A text taken apart at its first line's end. -/
theorem line_form (s : List UInt8) : ((10 : UInt8) ∉ s ∧ splt 10 s = [s]) ∨ ∃ p r, s = p ++ 10 :: r ∧ (10 : UInt8) ∉ p ∧ splt 10 s = p :: splt 10 r := by
  induction s with
  | nil => exact .inl ⟨by simp, rfl⟩
  | cons x t ih =>
    by_cases hx : x = 10
    · subst hx
      exact .inr ⟨[], t, rfl, by simp, splt_eq 10 t⟩
    · rcases ih with ⟨h1, h2⟩ | ⟨p, t', h1, h2, h3⟩
      · exact .inl ⟨by simp [h1, Ne.symm hx], splt_ne hx h2⟩
      · exact .inr ⟨x :: p, t', by rw [h1]; rfl, by simp [h2, Ne.symm hx], splt_ne hx h3⟩
/-- The rest of a text as the reference reads it. -/
def restT (s : List UInt8) : Option (List Ins × List Nat) := bodyT (splt 10 s)
theorem restT_none {s : List UInt8} (h : (10 : UInt8) ∉ s) : restT s = none := by rw [restT, splt_word h]; rfl
theorem splt_nil {r : List UInt8} (h : splt 10 r = [[]]) : r = [] := by
  have := join_splt 10 r
  rw [h] at this
  exact this.symm
theorem restT_line {p r : List UInt8} (h : (10 : UInt8) ∉ p) : restT (p ++ 10 :: r) = match readT p with
    | none => none
    | some (w, l) => if w = wOut then (if r = [] then some ([], l) else none) else match insOf (w, l), restT r with
      | some x, some (c, o) => some (x :: c, o)
      | _, _ => none := by
  obtain ⟨g, t, e⟩ := splt_some 10 r
  rw [restT, splt_app h, restT, e, bodyT]
  have hr : (g = [] ∧ t = []) ↔ r = [] := by
    constructor
    · rintro ⟨rfl, rfl⟩; exact splt_nil e
    · rintro rfl
      have e2 : ([[]] : List (List UInt8)) = g :: t := e
      simp only [List.cons.injEq] at e2
      exact ⟨e2.1.symm, e2.2.symm⟩
  cases readT p with
  | none => rfl
  | some q =>
    obtain ⟨w, l⟩ := q
    simp only [hr]
theorem parseT_line {p r : List UInt8} (h : (10 : UInt8) ∉ p) : parseT (p ++ 10 :: r) = match readT p, restT r with
    | some (w, [n]), some (c, o) => if w = wProg then some (n, c, o) else none
    | _, _ => none := by
  obtain ⟨g, t, e⟩ := splt_some 10 r
  rw [parseT_full, splt_app h, restT, e, fullT]
theorem parseT_none {s : List UInt8} (h : (10 : UInt8) ∉ s) : parseT s = none := by rw [parseT_full, splt_word h]; rfl
/-- A line's first word, and what the reference takes as its numbers. -/
theorem readT_parts {p : List UInt8} : ∃ w r, p = w ++ r ∧ (32 : UInt8) ∉ w ∧ (r = [] ∨ r.head? = some 32) ∧ readT p = (numsR r).map fun l => (w, l) := by
  rcases splt_form p with ⟨h1, h2⟩ | ⟨w, t, h1, h2, h3⟩
  · refine ⟨p, [], by simp, h1, .inl rfl, ?_⟩
    rw [readT, h2, numsR]; rfl
  · refine ⟨w, 32 :: t, h1, h2, .inr rfl, ?_⟩
    rw [readT, h3, numsR_split t.length t (Nat.le_refl _)]
end Go.Proofs.YtmabciajhmjmeaaGreatDoor
