/-
  What the frames of the statements share: how an argument that came in is read.
  No condition: these are general lemmas.
-/
import Derived.Test.YtobbinppkjmhhaaDoorLib
import Derived.ProofKit
import Derived.OpenShut
import Derived.DataShut
import Derived.ShutString
import Derived.ChangeOld
import Derived.Below
namespace Go.Proofs.YtobbinppkjmhhaaDoor
open Go.RowKit

/-- A slice of integers that came in: it reads as l, and each number fits its kind. -/
def IsInts (k : IntKind) (w : World) (v : Value) (l : List Int) : Prop := Sl 1 w v l.length (l.map (.int k)) ∧ ∀ x ∈ l, k.min ≤ x ∧ x ≤ k.max

theorem isInts_nil (k : IntKind) (w : World) : IsInts k w (.slice none 0 0) [] := ⟨Sl.nil 1 w, by simp⟩
theorem isInts_row {k : IntKind} {w : World} {x : Addr} {len cap : Nat} {zs : List Int} (h1 : len ≤ cap) (h2 : cap ≤ maxLen) (h3 : len ≤ zs.length) (h4 : ∀ i, i < zs.length → w.cell? (x.add i) = some (.int k (zs.getD i 0))) (h5 : ∀ n ∈ zs, (Lit.int k n).wf = true) :
    IsInts k w (.slice (some x) len cap) (zs.take len) := by
  have hl : (zs.take len).length = len := by simp; omega
  refine ⟨⟨some x, cap, by rw [hl], by simp, by omega, by unfold maxLen at h2; omega, ?_⟩, fun n hn => (Lit.wf_int_iff k n).1 (h5 n (List.mem_of_mem_take hn))⟩
  by_cases h0 : len = 0
  · exact .inl (by rw [hl, h0])
  · refine .inr ?_
    have hs : x.spot = none := by simpa [Addr.add] using World.cell?_spot (h4 0 (by omega))
    obtain ⟨b, o, spot⟩ := x
    simp only at hs
    subst hs
    refine ⟨b, o, rfl, fun j y hy => ?_⟩
    have hj := lt_of_some hy
    rw [List.length_map, hl] at hj
    have := h4 j (by omega)
    have e : (⟨b, o, none⟩ : Addr).add j = ⟨b, o + j, none⟩ := by unfold Addr.add; split <;> simp_all
    rw [e] at this
    rw [this]
    rw [List.getElem?_map, List.getElem?_take, if_pos hj, List.getElem?_eq_getElem (by omega), Option.map_some] at hy
    rw [← hy, List.getD_eq_getElem?_getD, List.getElem?_eq_getElem (by omega), Option.getD_some]

/-- A slice of strings that came in. -/
def IsStrs (w : World) (v : Value) (l : List ByteArray) : Prop := Sl 1 w v l.length (strs l) ∧ ∀ s ∈ l, s.size ≤ maxLen
theorem isStrs_nil (w : World) : IsStrs w (.slice none 0 0) [] := ⟨Sl.nil 1 w, by simp⟩
theorem isStrs_row {w : World} {x : Addr} {len cap : Nat} {zs : List ByteArray} (h1 : len ≤ cap) (h2 : cap ≤ maxLen) (h3 : len ≤ zs.length) (h4 : ∀ i, i < zs.length → w.cell? (x.add i) = some (.string (zs.getD i ByteArray.empty))) (h5 : ∀ s ∈ zs, s.size ≤ maxLen) :
    IsStrs w (.slice (some x) len cap) (zs.take len) := by
  have hl : (zs.take len).length = len := by simp; omega
  refine ⟨⟨some x, cap, by rw [hl], by simp [strs], by omega, by unfold maxLen at h2; omega, ?_⟩, fun s hs => h5 s (List.mem_of_mem_take hs)⟩
  by_cases h0 : len = 0
  · exact .inl (by rw [hl, h0])
  · refine .inr ?_
    have hs : x.spot = none := by simpa [Addr.add] using World.cell?_spot (h4 0 (by omega))
    obtain ⟨b, o, spot⟩ := x
    simp only at hs
    subst hs
    refine ⟨b, o, rfl, fun j y hy => ?_⟩
    have hj := lt_of_some hy
    rw [strs_len, hl] at hj
    have := h4 j (by omega)
    have e : (⟨b, o, none⟩ : Addr).add j = ⟨b, o + j, none⟩ := by unfold Addr.add; split <;> simp_all
    rw [e] at this
    rw [this]
    rw [strs, List.getElem?_map, List.getElem?_take, if_pos hj, List.getElem?_eq_getElem (by omega), Option.map_some] at hy
    rw [← hy, List.getD_eq_getElem?_getD, List.getElem?_eq_getElem (by omega), Option.getD_some]
end Go.Proofs.YtobbinppkjmhhaaDoor
