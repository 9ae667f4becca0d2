/-
  What parser.build computes, in plain terms: the different beginnings by their first places, the map of numbers.
  No condition: plain laws.
-/
import Derived.Test.YtjcdddccnfiemaaDoorCodeLaw
namespace Go.Proofs.YtjcdddccnfiemaaDoor
open Go.RowKit
set_option linter.unusedVariables false

def addD (acc : List ByteArray) (x : ByteArray) : List ByteArray := if 0 ≤ idxW acc x then acc else acc ++ [x]
/-- Each word of a list once, by its first place. -/
def dedD (l : List ByteArray) : List ByteArray := l.foldl addD []
theorem dedD_snoc (l : List ByteArray) (x : ByteArray) : dedD (l ++ [x]) = addD (dedD l) x := by simp [dedD]
theorem dedD_yes {l : List ByteArray} {x : ByteArray} (h : 0 ≤ idxW (dedD l) x) : dedD (l ++ [x]) = dedD l := by rw [dedD_snoc, addD, if_pos h]
theorem dedD_no {l : List ByteArray} {x : ByteArray} (h : ¬ 0 ≤ idxW (dedD l) x) : dedD (l ++ [x]) = dedD l ++ [x] := by rw [dedD_snoc, addD, if_neg h]
theorem dedD_go (l acc : List ByteArray) (h : acc.Nodup) : (l.foldl addD acc).Nodup ∧ (∀ z, z ∈ l.foldl addD acc ↔ z ∈ acc ∨ z ∈ l) ∧ (l.foldl addD acc).length ≤ acc.length + l.length := by
  induction l generalizing acc with
  | nil => exact ⟨h, fun z => by simp, by simp⟩
  | cons x l ih =>
    rw [List.foldl_cons]
    by_cases hx : 0 ≤ idxW acc x
    · rw [addD, if_pos hx]
      obtain ⟨h1, h2, h3⟩ := ih acc h
      refine ⟨h1, fun z => ?_, by simp only [List.length_cons]; omega⟩
      rw [h2, List.mem_cons]
      have := (idxW_mem acc x).1 hx
      constructor
      · rintro (e | e) <;> simp [e]
      · rintro (e | e | e)
        · exact .inl e
        · subst e; exact .inl this
        · exact .inr e
    · rw [addD, if_neg hx]
      have hnx : x ∉ acc := fun g => hx ((idxW_mem acc x).2 g)
      obtain ⟨h1, h2, h3⟩ := ih (acc ++ [x]) (by
        rw [List.nodup_append]
        refine ⟨h, by simp, ?_⟩
        intro a ha b hb hab
        simp only [List.mem_singleton] at hb
        subst hb hab
        exact hnx ha)
      refine ⟨h1, fun z => ?_, by simp only [List.length_cons, List.length_append, List.length_nil] at h3 ⊢; omega⟩
      rw [h2, List.mem_append, List.mem_cons, List.mem_cons]
      constructor
      · rintro ((e | e | e) | e)
        · exact .inl e
        · exact .inr (.inl e)
        · simp at e
        · exact .inr (.inr e)
      · rintro (e | e | e) <;> simp [e]
theorem dedD_nodup (l : List ByteArray) : (dedD l).Nodup := (dedD_go l [] List.nodup_nil).1
theorem mem_dedD {l : List ByteArray} {z : ByteArray} : z ∈ dedD l ↔ z ∈ l := by rw [dedD, (dedD_go l [] List.nodup_nil).2.1]; simp
theorem dedD_len (l : List ByteArray) : (dedD l).length ≤ l.length := by have := (dedD_go l [] List.nodup_nil).2.2; simpa [dedD] using this
theorem sort_ded (l : List ByteArray) : sortW (dedD l) = sortW l := asc_unique (asc_sortW _) (asc_sortW _) fun x => by rw [mem_sortW, mem_sortW, mem_dedD]
theorem preL_snoc {ws : List ByteArray} {i : Nat} {x : ByteArray} (h : ws[i]? = some x) : preL (ws.take (i + 1)) = preL (ws.take i) ++ preW x := by
  rw [take_snoc h]; simp [preL]
theorem preW_snoc {x : ByteArray} {n : Nat} (h : n < x.size) : (preW x).take (n + 1) = (preW x).take n ++ [x.extract 0 n] := by
  apply take_snoc
  simp [preW, h]
theorem preW_len (x : ByteArray) : (preW x).length = x.size := by simp [preW]
theorem preL_len {ws : List ByteArray} {m : Nat} (h : ∀ w ∈ ws, w.size ≤ m) : (preL ws).length ≤ ws.length * m := by
  induction ws with
  | nil => simp [preL]
  | cons w ws ih =>
    have h1 := ih (fun x hx => h x (by simp [hx]))
    have h2 := h w (by simp)
    have h3 : (preL (w :: ws)).length = (preW w).length + (preL ws).length := by simp [preL]
    rw [h3, preW_len, List.length_cons, Nat.succ_mul]
    omega
theorem nodup_subG {α : Type} [BEq α] [LawfulBEq α] {l l' : List α} (hn : l.Nodup) (hs : ∀ x ∈ l, x ∈ l') : l.length ≤ l'.length := by
  induction l generalizing l' with
  | nil => simp
  | cons x l ih =>
    have hx : x ∈ l' := hs x (by simp)
    rw [List.nodup_cons] at hn
    have h1 := ih (l' := l'.erase x) hn.2 (fun y hy => by
      have hne : y ≠ x := fun e => hn.1 (e ▸ hy)
      exact (List.mem_erase_of_ne hne).2 (hs y (by simp [hy])))
    have h2 := List.length_erase_of_mem hx
    have h3 : 0 < l'.length := List.length_pos_of_mem hx
    simp only [List.length_cons]
    omega
theorem nodup_sub {l l' : List ByteArray} (hn : l.Nodup) (hs : ∀ x ∈ l, x ∈ l') : l.length ≤ l'.length := by
  have := nodup_subG (l := l.map (·.data.toList)) (l' := l'.map (·.data.toList)) (by
    rw [List.Nodup, List.pairwise_map]
    exact hn.imp fun {a b} hab e => hab (ba_ext e)) (fun y hy => by
    obtain ⟨x, hx, rfl⟩ := List.mem_map.1 hy
    exact List.mem_map.2 ⟨x, hs x hx, rfl⟩)
  simpa using this
/-- What the map says while the beginnings are gathered. -/
def fD (l : List ByteArray) (s : ByteArray) : Option Int := if 0 ≤ idxW l s then some 0 else none
theorem fD_snoc {l : List ByteArray} {x : ByteArray} (s : ByteArray) : (if s = x then some 0 else fD l s) = fD (l ++ [x]) s := by
  unfold fD
  have h : 0 ≤ idxW (l ++ [x]) s ↔ (0 ≤ idxW l s ∨ s = x) := by rw [idxW_mem, idxW_mem, List.mem_append, List.mem_singleton]
  by_cases e : s = x
  · rw [if_pos e, if_pos (h.2 (.inr e))]
  · rw [if_neg e]
    by_cases g : 0 ≤ idxW l s
    · rw [if_pos g, if_pos (h.2 (.inl g))]
    · rw [if_neg g, if_neg (fun k => (h.1 k).elim g e)]
/-- What it says while the numbers are given. -/
def fK (st : List ByteArray) (k : Nat) (s : ByteArray) : Option Int := if idxW st s < 0 then none else if idxW st s < k then some (idxW st s) else some 0
theorem fK_zero {l st : List ByteArray} (h : ∀ x, x ∈ l ↔ x ∈ st) (s : ByteArray) : fD l s = fK st 0 s := by
  unfold fD fK
  have h1 : 0 ≤ idxW l s ↔ 0 ≤ idxW st s := by rw [idxW_mem, idxW_mem, h]
  by_cases g : 0 ≤ idxW l s
  · have := h1.1 g
    rw [if_pos g, if_neg (by omega), if_neg (by omega)]
  · have : ¬ 0 ≤ idxW st s := fun k => g (h1.2 k)
    rw [if_neg g, if_pos (by omega)]
theorem fK_succ {st : List ByteArray} {k : Nat} {x : ByteArray} (hn : st.Nodup) (hx : st[k]? = some x) (s : ByteArray) : (if s = x then some (k : Int) else fK st k s) = fK st (k + 1) s := by
  have hi := idxW_at hn hx
  unfold fK
  by_cases e : s = x
  · subst e
    rw [if_pos rfl, hi, if_neg (by omega), if_pos (by omega)]
  · rw [if_neg e]
    by_cases g : idxW st s < 0
    · rw [if_pos g, if_pos g]
    · rw [if_neg g, if_neg g]
      have hne : idxW st s ≠ k := by
        intro h
        have h2 := idxW_get (l := st) (x := s) (by omega)
        rw [h, Int.toNat_natCast, hx] at h2
        exact e (Option.some.inj h2).symm
      by_cases g2 : idxW st s < k
      · rw [if_pos g2, if_pos (by omega)]
      · rw [if_neg g2, if_neg (by omega)]
theorem fK_all (st : List ByteArray) (s : ByteArray) : fK st st.length s = if idxW st s < 0 then none else some (idxW st s) := by
  unfold fK
  have := (idxW_low st s).2
  by_cases g : idxW st s < 0
  · rw [if_pos g, if_pos g]
  · rw [if_neg g, if_neg g, if_pos this]
end Go.Proofs.YtjcdddccnfiemaaDoor
