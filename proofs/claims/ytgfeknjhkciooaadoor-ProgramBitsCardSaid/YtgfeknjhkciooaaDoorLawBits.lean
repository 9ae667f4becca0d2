/-
  What the statement ProgramBits compares, as plain equations: the program with its outputs negated, and in another order.
  No condition.
-/
import Derived.Test.YtgfeknjhkciooaaDoorLawRed
namespace Go.Proofs.YtgfeknjhkciooaaDoor
open Go.RowKit
set_option linter.unusedVariables false

def notL (o : List Int) : List Ins := o.map fun x => ⟨5, x, 0⟩
def notO (m : Nat) (k : Nat) : List Int := (List.range k).map fun j => ((m + j : Nat) : Int)
theorem notL_len (o : List Int) : (notL o).length = o.length := by simp [notL]
theorem notO_len (m k : Nat) : (notO m k).length = k := by simp [notO]
theorem notO_succ (m k : Nat) : notO m (k + 1) = notO m k ++ [((m + k : Nat) : Int)] := by simp [notO, List.range_succ]
theorem notL_snoc (o : List Int) (x : Int) : notL (o ++ [x]) = notL o ++ [⟨5, x, 0⟩] := by simp [notL]
theorem pvals_nots (l : List Bool) (o : List Int) (h : ∀ k ∈ o, 0 ≤ k ∧ k.toNat < l.length) : pvals l (notL o) = l ++ o.map fun x => !l.getD x.toNat false := by
  induction o using snoc_ind with
  | h0 => simp [notL, pvals_nil]
  | h1 o x ih =>
    have hx := h x (by simp)
    have ih := ih fun k hk => h k (by simp [hk])
    rw [notL_snoc, pvals_snoc, ih, List.map_append, ← List.append_assoc]
    congr 1
    show [opB 5 _ _] = [!l.getD x.toNat false]
    rw [show ∀ a b, opB 5 a b = !a from fun a b => by simp [opB], getD_prefix (List.prefix_append _ _) hx.2]
theorem nots_outs {N : Nat} {l : List Bool} {c : List Ins} {o : List Int} (hl : l.length = N) (ho : ∀ k ∈ o, 0 ≤ k ∧ k < (N : Int) + c.length) :
    poutsV l (c ++ notL o) (notO (N + c.length) o.length) = (poutsV l c o).map (!·) := by
  unfold poutsV
  have hp : (pvals l c).length = N + c.length := by rw [pvals_len, hl]
  rw [pvals_append, pvals_nots _ _ fun k hk => by have := ho k hk; rw [hp]; omega]
  unfold notO
  rw [List.map_map, List.map_map]
  refine List.ext_getElem? fun j => ?_
  rw [List.getElem?_map, List.getElem?_map]
  by_cases hj : j < o.length
  · rw [List.getElem?_range hj, List.getElem?_eq_getElem hj]
    simp only [Option.map_some, Function.comp, Int.toNat_natCast]
    rw [List.getD_eq_getElem?_getD, List.getElem?_append_right (by rw [hp]; omega), hp, Nat.add_sub_cancel_left, List.getElem?_map, List.getElem?_eq_getElem hj]
    rfl
  · rw [List.getElem?_eq_none (by simp; omega), List.getElem?_eq_none (by omega)]
    rfl
theorem nots_valid {N : Nat} {c : List Ins} {o : List Int} (h : progErr N c o = 0) (hc : c.length ≤ 30) (ho : o.length ≤ 30) : progErr N (c ++ notL o) (notO (N + c.length) o.length) = 0 := by
  obtain ⟨M, e, hN, hp, hk⟩ := progErr_parts h
  obtain rfl : N = M := by omega
  refine progErr_zero.2 ⟨by omega, by omega, by rw [List.length_append, notL_len]; omega, by rw [notO_len]; omega, ?_, ?_⟩
  · rw [pcodeErr_append hp, pcodeErr_at]
    intro i x hx
    rw [notL, List.getElem?_map] at hx
    cases hi : o[i]? with
    | none => rw [hi] at hx; cases hx
    | some y =>
      rw [hi] at hx
      obtain rfl := Option.some.inj hx
      have := hk y (List.mem_of_getElem? hi)
      refine insErr_zero.2 (.inr (.inl ⟨rfl, this.1, ?_, rfl⟩))
      show y < (N : Int) + c.length + i
      omega
  · intro k hk2
    unfold notO at hk2
    rw [List.mem_map] at hk2
    obtain ⟨j, hj, rfl⟩ := hk2
    rw [List.mem_range] at hj
    rw [List.length_append, notL_len]
    omega
theorem rev_valid {n : Int} {c : List Ins} {o : List Int} (h : progErr n c o = 0) : progErr n c o.reverse = 0 := by
  obtain ⟨h0, h1, h2, h3, h4, h5⟩ := progErr_zero.1 h
  exact progErr_zero.2 ⟨h0, h1, h2, by rw [List.length_reverse]; exact h3, h4, fun k hk => h5 k (List.mem_reverse.1 hk)⟩
theorem rev_outs (l : List Bool) (c : List Ins) (o : List Int) : poutsV l c o.reverse = (poutsV l c o).reverse := by simp [poutsV]
/-- What is compared. -/
structure BitsLaw (N : Nat) (c : List Ins) (o : List Int) (l V : List Bool) : Prop where
  ra : runErr N c o (bitS l) = 0
  rb : runErr N (c ++ notL o) (notO (N + c.length) o.length) (bitS l) = 0
  rc : runErr N c o.reverse (bitS l) = 0
  sa : runStr N c o (bitS l) = bitS V
  sb : runStr N (c ++ notL o) (notO (N + c.length) o.length) (bitS l) = bitS (V.map (!·))
  sc : runStr N c o.reverse (bitS l) = bitS V.reverse
  len : V.length = o.length
theorem bitsLaw {N : Nat} {c : List Ins} {o : List Int} {l : List Bool} (h : progErr N c o = 0) (hc : c.length ≤ 30) (ho : o.length ≤ 30) (hl : l.length = N) : BitsLaw N c o l (poutsV l c o) := by
  obtain ⟨M, e, hN, hp, hk⟩ := progErr_parts h
  obtain rfl : N = M := by omega
  have hb : ((bitS l).size : Int) = N := by rw [bitS_size, hl]
  have ra : runErr N c o (bitS l) = 0 := runErr_zero.2 ⟨h, hb, okBits_bitS l⟩
  have rb := runErr_zero.2 ⟨nots_valid h hc ho, hb, okBits_bitS l⟩
  have rc : runErr N c o.reverse (bitS l) = 0 := runErr_zero.2 ⟨rev_valid h, hb, okBits_bitS l⟩
  exact ⟨ra, rb, rc, by rw [runStr, if_pos ra, bitsB_bitS], by rw [runStr, if_pos rb, bitsB_bitS, nots_outs hl hk], by rw [runStr, if_pos rc, bitsB_bitS, rev_outs], poutsV_len _ _ _⟩
end Go.Proofs.YtgfeknjhkciooaaDoor
