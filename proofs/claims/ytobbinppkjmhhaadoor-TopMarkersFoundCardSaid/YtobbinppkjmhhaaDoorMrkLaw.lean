/-
  Blocks of a track that are told by their markers: plain laws.
  No condition: no program in sight.
-/
import Derived.Test.YtobbinppkjmhhaaDoorInsLaw
namespace Go.Proofs.YtobbinppkjmhhaaDoor
open Go.RowKit
set_option linter.unusedVariables false

/-- Whether the marker stands behind n letters. -/
def fitB (m w : List UInt8) (n : Nat) : Bool := decide (n ≤ w.length) && m.isPrefixOf (w.drop n)
def shfB (b : Nat) (m w : List UInt8) : Int := if fitB m w b then 0 else if fitB m w (b - 1) then -1 else if fitB m w (b + 1) then 1 else 2
def cutL (b : Nat) (s : Int) : Nat := ((b : Int) + s).toNat
abbrev Blk := List UInt8 × Int
def blkF (b : Nat) (m : List UInt8) : Nat → List UInt8 → List Blk
  | 0, _ => []
  | N + 1, w => if w = [] then [] else if shfB b m w = 2 then [([], 2)] else (w.take (cutL b (shfB b m w)), shfB b m w) :: blkF b m N (w.drop (cutL b (shfB b m w) + m.length))
/-- The blocks of a track with their shifts; 2 stands for none that fits. -/
def blk (b : Nat) (m w : List UInt8) : List Blk := blkF b m w.length w
theorem blkF_step (b : Nat) (m : List UInt8) (N : Nat) (x : UInt8) (w : List UInt8) : blkF b m (N + 1) (x :: w) = if shfB b m (x :: w) = 2 then [([], 2)] else ((x :: w).take (cutL b (shfB b m (x :: w))), shfB b m (x :: w)) :: blkF b m N ((x :: w).drop (cutL b (shfB b m (x :: w)) + m.length)) := by
  rw [blkF, if_neg (by simp)]
theorem blkF_fuel {b : Nat} {m : List UInt8} (hm : m ≠ []) : ∀ (N : Nat) (w : List UInt8), w.length ≤ N → blkF b m N w = blk b m w
  | 0, w, h => by
    have : w = [] := List.length_eq_zero_iff.1 (by omega)
    subst this; rfl
  | N + 1, w, h => by
    cases w with
    | nil => rfl
    | cons x w =>
      have hml : 0 < m.length := List.length_pos_iff.2 hm
      unfold blk
      rw [List.length_cons, blkF_step, blkF_step]
      by_cases h2 : shfB b m (x :: w) = 2
      · rw [if_pos h2, if_pos h2]
      · rw [if_neg h2, if_neg h2]
        have hd : ((x :: w).drop (cutL b (shfB b m (x :: w)) + m.length)).length ≤ w.length := by rw [List.length_drop, List.length_cons]; omega
        rw [List.length_cons] at h
        rw [blkF_fuel hm N _ (by omega), blkF_fuel hm w.length _ hd]
theorem blk_nil (b : Nat) (m : List UInt8) : blk b m [] = [] := rfl
theorem blk_two {b : Nat} {m w : List UInt8} (hw : w ≠ []) (h : shfB b m w = 2) : blk b m w = [([], 2)] := by
  cases w with
  | nil => exact absurd rfl hw
  | cons x w => unfold blk; rw [List.length_cons, blkF_step, if_pos h]
theorem blk_cons {b : Nat} {m w : List UInt8} (hm : m ≠ []) (hw : w ≠ []) (h : shfB b m w ≠ 2) : blk b m w = (w.take (cutL b (shfB b m w)), shfB b m w) :: blk b m (w.drop (cutL b (shfB b m w) + m.length)) := by
  cases w with
  | nil => exact absurd rfl hw
  | cons x w =>
    have hml : 0 < m.length := List.length_pos_iff.2 hm
    conv => lhs; unfold blk
    rw [List.length_cons, blkF_step, if_neg h, blkF_fuel hm w.length _ (by rw [List.length_drop, List.length_cons]; omega)]
theorem shfB_four (b : Nat) (m w : List UInt8) : shfB b m w = 0 ∨ shfB b m w = -1 ∨ shfB b m w = 1 ∨ shfB b m w = 2 := by
  unfold shfB
  split
  · simp
  · split
    · simp
    · split <;> simp
theorem blk_len {b : Nat} {m : List UInt8} (hm : m ≠ []) : ∀ (N : Nat) (w : List UInt8), w.length ≤ N → (blk b m w).length ≤ w.length
  | 0, w, h => by
    have : w = [] := List.length_eq_zero_iff.1 (by omega)
    subst this; exact Nat.le_refl _
  | N + 1, w, h => by
    by_cases hw : w = []
    · subst hw; exact Nat.le_refl _
    · have hl : 0 < w.length := List.length_pos_iff.2 hw
      have hml : 0 < m.length := List.length_pos_iff.2 hm
      by_cases h2 : shfB b m w = 2
      · rw [blk_two hw h2]; exact hl
      · rw [blk_cons hm hw h2, List.length_cons]
        have := blk_len (b := b) hm N (w.drop (cutL b (shfB b m w) + m.length)) (by rw [List.length_drop]; omega)
        rw [List.length_drop] at this
        omega
/-- The track of words. -/
def trk (m : List UInt8) (ws : List (List UInt8)) : List UInt8 := ws.flatMap fun x => x ++ m
theorem blk_back {b : Nat} {m : List UInt8} (hm : m ≠ []) : ∀ ws : List Blk, (∀ p ∈ ws, (p.1.length : Int) = b + p.2 ∧ p.2 ≠ 2) → (blk b m (trk m (ws.map (·.1)))).map (·.2) = ws.map (·.2) → blk b m (trk m (ws.map (·.1))) = ws
  | [], _, _ => rfl
  | p :: ws, h, he => by
    obtain ⟨h1, h2⟩ := h p (List.mem_cons_self ..)
    have e : trk m ((p :: ws).map (·.1)) = p.1 ++ m ++ trk m (ws.map (·.1)) := rfl
    have hw : trk m ((p :: ws).map (·.1)) ≠ [] := by
      rw [e]; intro h0
      simp at h0
      exact hm h0.2.1
    by_cases hs : shfB b m (trk m ((p :: ws).map (·.1))) = 2
    · rw [blk_two hw hs] at he
      simp at he
      exact absurd he.1.symm h2
    · rw [blk_cons hm hw hs] at he ⊢
      simp only [List.map_cons, List.cons.injEq] at he
      obtain ⟨he1, he2⟩ := he
      have hc : cutL b (shfB b m (trk m (p.1 :: ws.map (·.1)))) = p.1.length := by
        have : cutL b (shfB b m (trk m (p.1 :: ws.map (·.1)))) = cutL b p.2 := congrArg (cutL b) he1
        rw [this]; unfold cutL; omega
      have e2 : trk m (p.1 :: ws.map (·.1)) = p.1 ++ (m ++ trk m (ws.map (·.1))) := by rw [← List.append_assoc]; rfl
      rw [List.map_cons, hc, e2, List.take_left', ← List.append_assoc]
      · rw [hc, e2, ← List.append_assoc] at he2
        have hd : (p.1 ++ m ++ trk m (ws.map (·.1))).drop (p.1.length + m.length) = trk m (ws.map (·.1)) := by
          rw [← List.length_append, List.drop_left]
        rw [hd] at he2 ⊢
        rw [blk_back hm ws (fun q hq => h q (List.mem_cons_of_mem _ hq)) he2]
        rw [e2] at he1
        rw [← List.append_assoc] at he1
        rw [he1]
      · rfl
end Go.Proofs.YtobbinppkjmhhaaDoor
