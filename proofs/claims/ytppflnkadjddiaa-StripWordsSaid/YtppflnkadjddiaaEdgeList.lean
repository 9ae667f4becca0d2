/-
  The edges of strip's graph, in their order: a valid graph.
  No condition.
-/
import Derived.Test.YtppflnkadjddiaaRefGraphs
namespace Go.Proofs.Ytppflnkadjddiaa
open Go.RowKit Go.Sort
set_option linter.unusedVariables false

def edgeAt (n j : Nat) : Edge := ⟨((j / n : Nat) : Int), ((j % n : Nat) : Int), ((j % n : Nat) : Int)⟩
def mayJ (h : Int) (l : List Int) (n j : Nat) : Bool := okP h l ((j / n : Nat) : Int) ((j % n : Nat) : Int)
/-- The edges whose numbers lie below k. -/
def gE (h : Int) (l : List Int) (n k : Nat) : List Edge := ((List.range k).filter (mayJ h l n)).map (edgeAt n)
theorem gE_zero (h : Int) (l : List Int) (n : Nat) : gE h l n 0 = [] := rfl
theorem gE_len (h : Int) (l : List Int) (n k : Nat) : (gE h l n k).length ≤ k := by
  rw [gE, List.length_map]
  have := List.length_filter_le (mayJ h l n) (List.range k)
  simpa using this
theorem j_split {n c e : Nat} (h : e < n) : (c * n + e) / n = c ∧ (c * n + e) % n = e := by
  constructor
  · rw [Nat.add_comm, Nat.add_mul_div_right _ _ (by omega), Nat.div_eq_of_lt h, Nat.zero_add]
  · rw [Nat.add_comm, Nat.add_mul_mod_self_right, Nat.mod_eq_of_lt h]
theorem gE_yes {h : Int} {l : List Int} {n c e : Nat} (he : e < n) (hp : okP h l c e = true) : gE h l n (c * n + (e + 1)) = gE h l n (c * n + e) ++ [⟨c, e, e⟩] := by
  obtain ⟨h1, h2⟩ := j_split (c := c) he
  have hm : mayJ h l n (c * n + e) = true := by rw [mayJ, h1, h2]; exact hp
  have ha : edgeAt n (c * n + e) = ⟨c, e, e⟩ := by rw [edgeAt, h1, h2]
  rw [← Nat.add_assoc, gE, List.range_succ, List.filter_append, List.map_append]
  simp [hm, ha, gE]
theorem gE_no {h : Int} {l : List Int} {n c e : Nat} (he : e < n) (hp : okP h l c e = false) : gE h l n (c * n + (e + 1)) = gE h l n (c * n + e) := by
  obtain ⟨h1, h2⟩ := j_split (c := c) he
  have hm : mayJ h l n (c * n + e) = false := by rw [mayJ, h1, h2]; exact hp
  rw [← Nat.add_assoc, gE, List.range_succ, List.filter_append, List.map_append]
  simp [hm, gE]
theorem gE_next (h : Int) (l : List Int) (n c : Nat) : gE h l n (c * n + n) = gE h l n ((c + 1) * n + 0) := by
  rw [Nat.add_zero, Nat.add_mul, Nat.one_mul]
theorem cmpE_lt {n j k : Nat} (h : j < k) : cmpE (edgeAt n j) (edgeAt n k) = -1 := by
  have h1 : j / n ≤ k / n := Nat.div_le_div_right (by omega)
  by_cases h2 : j / n < k / n
  · have e : cmpZ ((j / n : Nat) : Int) ((k / n : Nat) : Int) = -1 := cmpZ_lt (by omega)
    simp only [cmpE, Edge.nums, edgeAt, cmpL, e]
    rfl
  · have h3 : j / n = k / n := by omega
    have h4 := Nat.div_add_mod j n
    have h5 := Nat.div_add_mod k n
    have h6 : j % n < k % n := by rw [h3] at h4; omega
    have e : cmpZ ((j % n : Nat) : Int) ((k % n : Nat) : Int) = -1 := cmpZ_lt (by omega)
    simp only [cmpE, Edge.nums, edgeAt, cmpL, h3, cmpZ_self, e]
    rfl
theorem gE_pairs (h : Int) (l : List Int) (n k : Nat) : (gE h l n k).Pairwise (fun x y => cmpE x y = -1) := by
  rw [gE, List.pairwise_map]
  exact (List.pairwise_lt_range.filter _).imp (fun h => cmpE_lt h)
theorem asc_of_pairs {es : List Edge} (h : es.Pairwise (fun x y => cmpE x y = -1)) : ∀ k x y, es[k]? = some x → es[k + 1]? = some y → cmpE x y = -1 := by
  intro k x y hx hy
  obtain ⟨hk, rfl⟩ := List.getElem?_eq_some_iff.1 hx
  obtain ⟨hk2, rfl⟩ := List.getElem?_eq_some_iff.1 hy
  exact List.pairwise_iff_getElem.1 h k (k + 1) hk hk2 (by omega)
theorem gE_fine (h : Int) (l : List Int) {n : Nat} (h2 : 2 ≤ n) (h16 : n ≤ 16) : GFine n n (gE h l n (n * n)) := by
  have hnn : n * n ≤ 16 * 16 := Nat.mul_le_mul h16 h16
  have hlen := gE_len h l n (n * n)
  refine ⟨by omega, by omega, by omega, by omega, by omega, ?_, asc_of_pairs (gE_pairs h l n _)⟩
  intro x hx
  rw [gE, List.mem_map] at hx
  obtain ⟨j, hj, rfl⟩ := hx
  have hj2 : j < n * n := by simpa using (List.mem_filter.1 hj).1
  have d : j / n < n := Nat.div_lt_of_lt_mul hj2
  have m : j % n < n := Nat.mod_lt _ (by omega)
  have d0 : (0 : Int) ≤ ((j / n : Nat) : Int) := Int.natCast_nonneg _
  have m0 : (0 : Int) ≤ ((j % n : Nat) : Int) := Int.natCast_nonneg _
  have d1 : ((j / n : Nat) : Int) < (n : Int) := Int.ofNat_lt.2 d
  have m1 : ((j % n : Nat) : Int) < (n : Int) := Int.ofNat_lt.2 m
  exact ⟨d0, d1, m0, m1, m0, m1⟩
end Go.Proofs.Ytppflnkadjddiaa
