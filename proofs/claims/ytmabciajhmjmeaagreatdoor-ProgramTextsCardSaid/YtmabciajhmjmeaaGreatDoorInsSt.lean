/-
  Reading a text line by line: what is known behind k lines (plain laws).
  No condition: no program in sight.
-/
import Derived.Test.YtmabciajhmjmeaaGreatDoorInsTxt
namespace Go.Proofs.YtmabciajhmjmeaaGreatDoor
open Go.RowKit
set_option linter.unusedVariables false

theorem linesT_at {ls : List (List UInt8)} (h : 2 ≤ ls.length) : linesT ls = match readT (ls.getD 0 []), codeT ((ls.drop 1).take (ls.length - 2)), readT (ls.getD (ls.length - 1) []) with
    | some (w, [n]), some c, some (v, o) => if w = wProg ∧ v = wOut then some (n, c, o) else none
    | _, _, _ => none := by
  match ls, h with
  | f :: g :: t, _ =>
    have e1 : ((f :: g :: t).drop 1).take ((f :: g :: t).length - 2) = (g :: t).dropLast := by
      rw [List.dropLast_eq_take]; simp
    have e2 : (f :: g :: t).getD ((f :: g :: t).length - 1) [] = (g :: t).getLast (by simp) := by
      rw [List.getLast_eq_getElem]
      simp [List.getD_eq_getElem?_getD]
    rw [e1, e2]
    rfl
/-- What is known behind k lines. -/
def StP (ls : List (List UInt8)) (k n : Nat) (c : List Ins) (o : List Nat) : Prop :=
  (k = 0 → n = 0 ∧ c = [] ∧ o = []) ∧ (1 ≤ k → readT (ls.getD 0 []) = some (wProg, [n]) ∧ codeT ((ls.drop 1).take (min k (ls.length - 1) - 1)) = some c ∧ (k < ls.length → o = []) ∧ (k = ls.length → readT (ls.getD (ls.length - 1) []) = some (wOut, o)))
theorem st_start (ls : List (List UInt8)) : StP ls 0 0 [] [] := ⟨fun _ => ⟨rfl, rfl, rfl⟩, fun h => by omega⟩
theorem st_first {ls : List (List UInt8)} {n : Nat} (h : 2 ≤ ls.length) (hr : readT (ls.getD 0 []) = some (wProg, [n])) : StP ls 1 n [] [] := by
  refine ⟨fun h0 => by omega, fun _ => ⟨hr, ?_, fun _ => rfl, fun h1 => by omega⟩⟩
  rw [show min 1 (ls.length - 1) - 1 = 0 by omega]; rfl
theorem st_mid {ls : List (List UInt8)} {k n : Nat} {c : List Ins} {o : List Nat} {x : Ins} (h1 : 1 ≤ k) (hk : k < ls.length - 1) (hs : StP ls k n c o) (hx : lineI (ls.getD k []) = some x) : StP ls (k + 1) n (c ++ [x]) o := by
  obtain ⟨h3, h4, h5, h6⟩ := hs.2 h1
  refine ⟨fun h0 => by omega, fun _ => ⟨h3, ?_, fun _ => h5 (by omega), fun h => by omega⟩⟩
  rw [show min k (ls.length - 1) - 1 = k - 1 by omega] at h4
  have hget : (ls.drop 1)[k - 1]? = some (ls.getD k []) := by
    rw [List.getElem?_drop, List.getD_eq_getElem?_getD, show 1 + (k - 1) = k by omega, List.getElem?_eq_getElem (by omega)]; rfl
  rw [show min (k + 1) (ls.length - 1) - 1 = (k - 1) + 1 by omega, List.take_add_one, hget]
  show codeT ((ls.drop 1).take (k - 1) ++ [ls.getD k []]) = _
  rw [codeT_snoc, h4, hx]
theorem st_last {ls : List (List UInt8)} {n : Nat} {c : List Ins} {o o' : List Nat} (h : 2 ≤ ls.length) (hs : StP ls (ls.length - 1) n c o) (hr : readT (ls.getD (ls.length - 1) []) = some (wOut, o')) : StP ls ls.length n c o' := by
  obtain ⟨h3, h4, h5, h6⟩ := hs.2 (by omega)
  refine ⟨fun h0 => by omega, fun _ => ⟨h3, ?_, fun h => by omega, fun _ => hr⟩⟩
  rw [show min ls.length (ls.length - 1) - 1 = min (ls.length - 1) (ls.length - 1) - 1 by omega]; exact h4
theorem st_done {ls : List (List UInt8)} {n : Nat} {c : List Ins} {o : List Nat} (h : 2 ≤ ls.length) (hs : StP ls ls.length n c o) : linesT ls = some (n, c, o) := by
  obtain ⟨h3, h4, h5, h6⟩ := hs.2 (by omega)
  rw [show min ls.length (ls.length - 1) - 1 = ls.length - 2 by omega] at h4
  rw [linesT_at h, h3, h4, h6 rfl]
  simp
theorem lines_first {ls : List (List UInt8)} (h : 2 ≤ ls.length) (hb : ∀ n, readT (ls.getD 0 []) ≠ some (wProg, [n])) : linesT ls = none := by
  cases hl : linesT ls with
  | none => rfl
  | some r =>
    obtain ⟨n, c, o⟩ := r
    rw [linesT_at h] at hl
    split at hl
    · rename_i w m c' v o' h1 h2 h3
      split at hl
      · rename_i hw; rw [hw.1] at h1; exact absurd h1 (hb m)
      · cases hl
    · cases hl
theorem lines_last {ls : List (List UInt8)} (h : 2 ≤ ls.length) (hb : ∀ o, readT (ls.getD (ls.length - 1) []) ≠ some (wOut, o)) : linesT ls = none := by
  cases hl : linesT ls with
  | none => rfl
  | some r =>
    obtain ⟨n, c, o⟩ := r
    rw [linesT_at h] at hl
    split at hl
    · rename_i w m c' v o' h1 h2 h3
      split at hl
      · rename_i hw; rw [hw.2] at h3; exact absurd h3 (hb o')
      · cases hl
    · cases hl
theorem lines_mid {ls : List (List UInt8)} {k : Nat} (h1 : 1 ≤ k) (hk : k < ls.length - 1) (hb : lineI (ls.getD k []) = none) : linesT ls = none := by
  have hmem : ls.getD k [] ∈ (ls.drop 1).take (ls.length - 2) := by
    have hget : ((ls.drop 1).take (ls.length - 2))[k - 1]? = some (ls.getD k []) := by
      rw [List.getElem?_take, if_pos (by omega), List.getElem?_drop, List.getD_eq_getElem?_getD, show 1 + (k - 1) = k by omega, List.getElem?_eq_getElem (by omega)]; rfl
    exact List.mem_of_getElem? hget
  have hc := codeT_bad hmem hb
  rw [linesT_at (by omega), hc]
  split
  · rename_i h2 _
    cases h2
  · rfl
theorem lineI_read {s : List UInt8} (h : readT s = none) : lineI s = none := by rw [lineI, h]; rfl
theorem lineI_of {s wd : List UInt8} {l : List Nat} (h : readT s = some (wd, l)) : lineI s = insOf (wd, l) := by rw [lineI, h]; rfl
theorem insOf_none {wd : List UInt8} {l : List Nat} (h : opOf wd = 0 ∨ (l.length : Int) ≠ usedN (opOf wd)) : insOf (wd, l) = none := by
  rw [insOf, if_neg]
  rintro ⟨h1, h2⟩
  rcases h with h | h
  · exact h1 h
  · exact h h2
theorem insOf_some {wd : List UInt8} {l : List Nat} (h0 : opOf wd ≠ 0) (h : (l.length : Int) = usedN (opOf wd)) : insOf (wd, l) = some ⟨opOf wd, (l.getD 0 0 : Nat), (l.getD 1 0 : Nat)⟩ := by
  rw [insOf, if_pos ⟨h0, h⟩]
end Go.Proofs.YtmabciajhmjmeaaGreatDoor
