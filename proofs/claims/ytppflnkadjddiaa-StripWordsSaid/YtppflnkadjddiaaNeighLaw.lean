/-
  The plain laws of StripNeighbours: the blocks that are drawn are a list of blocks; the rows of columns are read back.
  No condition.
-/
import Derived.Test.YtppflnkadjddiaaValid
import Derived.Test.YtppflnkadjddiaaRoundLaw
import Derived.Test.YtppflnkadjddiaaBasics
namespace Go.Proofs.Ytppflnkadjddiaa
open Go.RowKit
set_option linter.unusedVariables false

theorem chkGo_ok {M : Int} : ∀ (l : List Int) (p : Option Int), (∀ x ∈ l, 0 ≤ x ∧ x ≤ M) → l.Pairwise (· < ·) → (∀ q, p = some q → ∀ x ∈ l, q < x) → chkGo M p l = 0 := by
  intro l
  induction l with
  | nil => intro p _ _ _; rw [chkGo]
  | cons a r ih =>
    intro p h1 h2 h3
    rw [List.pairwise_cons] at h2
    have ha := h1 a (List.mem_cons_self ..)
    have hr := ih (some a) (fun x hx => h1 x (List.mem_cons_of_mem _ hx)) h2.2 (fun q hq x hx => by cases hq; exact h2.1 x hx)
    rw [chkGo, if_neg (by omega), hr]
    cases p with
    | none => simp
    | some q => have := h3 q rfl a (List.mem_cons_self ..); simp; omega
theorem chk_blkOf (h s : Int) (h1 : 1 ≤ h) (h4 : h ≤ 4) : chk h (blkOf h s) = 0 := by
  rw [chk, if_pos ⟨h1, h4⟩]
  refine chkGo_ok _ _ ?_ ?_ (by simp)
  · intro x hx
    simp only [blkOf, blkTo, List.mem_map, List.mem_filter, List.mem_range] at hx
    obtain ⟨n, ⟨hn, hb⟩, rfl⟩ := hx
    simp only [blkB, Bool.and_eq_true, Bool.or_eq_true, decide_eq_true_eq] at hb
    unfold most
    split <;> omega
  · unfold blkOf blkTo
    rw [List.pairwise_map]
    exact (List.pairwise_lt_range (n := 16)).filter _ |>.imp (fun h => by omega)
theorem valid_rows {h : Int} {C b : List Int} (h1 : 1 ≤ h) (h4 : h ≤ 4) (hn : C.length ≤ 65536) (ha : C.all (okCol h) = true) (hb : chk h b = 0) :
    validE b (rowsGo h C h.toNat) = 0 ∧ validB b (rowsGo h C h.toNat) = adj (okP h b) C := by
  have e0 := colsErr_rowsGo (c := C) h1 h4 hn
  have e1 : ((rowsGo h C h.toNat).length : Int) = h := by rw [rowsGo_len]; omega
  have e2 : validE b (rowsGo h C h.toNat) = 0 := by rw [validE, e0, e1, hb]; rfl
  refine ⟨e2, ?_⟩
  rw [validB, if_pos e2, e1, colsL_rowsGo h1 h4 hn ha]
theorem adjGo_snoc (P : Int → Int → Bool) : ∀ (l : List Int) (p : Option Int) (y x : Int), adjGo P p (l ++ [y, x]) = (adjGo P p (l ++ [y]) && P y x) := by
  intro l
  induction l with
  | nil => intro p y x; cases p <;> simp [adjGo]
  | cons a r ih =>
    intro p y x
    cases p with
    | none => simp only [List.cons_append, adjGo]; exact ih _ _ _
    | some q => simp only [List.cons_append, adjGo]; rw [ih, Bool.and_assoc]
theorem adj_take_succ (P : Int → Int → Bool) {C : List Int} {k : Nat} {y x : Int} (hk : 1 ≤ k) (hy : C[k - 1]? = some y) (hx : C[k]? = some x) : adj P (C.take (k + 1)) = (adj P (C.take k) && P y x) := by
  have e1 := take_snoc hx
  have e2 := take_snoc hy
  rw [show k - 1 + 1 = k from by omega] at e2
  rw [e1, e2, adj, adj, List.append_assoc]
  exact adjGo_snoc P _ _ _ _
theorem adj_one (P : Int → Int → Bool) (C : List Int) : adj P (C.take 1) = true := by
  cases C with
  | nil => rfl
  | cons a r => simp [adj, adjGo]
theorem adj_two (P : Int → Int → Bool) (y x : Int) : adj P [y, x] = P y x := by simp [adj, adjGo]
theorem all_two {h : Int} {C : List Int} (ha : C.all (okCol h) = true) {k : Nat} {y x : Int} (hy : C[k - 1]? = some y) (hx : C[k]? = some x) : [y, x].all (okCol h) = true := by
  rw [List.all_eq_true] at ha
  have h1 := ha y (List.mem_of_getElem? hy)
  have h2 := ha x (List.mem_of_getElem? hx)
  simp [h1, h2]
/-- A part of a slice, as it is read. -/
theorem Sl.sub {w : World} {b o n cap : Nat} {cs : List Value} (h : Sl 1 w (.slice (some ⟨b, o, none⟩) n cap) n cs) (lo hi : Nat) (h1 : lo ≤ hi) (h2 : hi ≤ n) :
    Sl 1 w (.slice (some ⟨b, o + lo, none⟩) (hi - lo) (cap - lo)) (hi - lo) ((cs.drop lo).take (hi - lo)) := by
  obtain ⟨ao', cap', hv, hl, hc, hm, h3⟩ := h
  simp only [Value.slice.injEq] at hv
  obtain ⟨rfl, _, rfl⟩ := hv
  refine ⟨_, _, rfl, by simp; omega, by omega, by omega, ?_⟩
  rcases h3 with h3 | ⟨b', o', hbo, h3⟩
  · exact .inl (by omega)
  · simp only [Option.some.injEq, Addr.mk.injEq, and_true] at hbo
    obtain ⟨rfl, rfl⟩ := hbo
    refine .inr ⟨_, _, rfl, fun j x hj => ?_⟩
    have hlt := lt_of_some hj
    rw [List.length_take] at hlt
    rw [List.getElem?_take, if_pos (by omega), List.getElem?_drop] at hj
    have := h3 (lo + j) x hj
    rwa [← Nat.add_assoc] at this
theorem two_of {C : List Int} {k : Nat} {y x : Int} (hk : 1 ≤ k) (hy : C[k - 1]? = some y) (hx : C[k]? = some x) : ((ints C).drop (k - 1)).take 2 = ints [y, x] := by
  have e1 := drop_cons (ints_get hy)
  have e2 := drop_cons (ints_get hx)
  rw [show k - 1 + 1 = k from by omega] at e1
  rw [e1, e2]
  rfl
end Go.Proofs.Ytppflnkadjddiaa
