/-
  What lies in memory while resync.table works: the table's rows.
  No condition: these are general lemmas.
-/
import Derived.Test.YtjcdddccnfiemaaDoorKnown
namespace Go.Proofs.YtjcdddccnfiemaaDoor
open Go.RowKit Go.Deep
set_option linter.unusedVariables false

theorem Tryd.infoRows : (Tryd.prog.info? 37).map (fun i => (i.zero, i.size, i.bytes)) = some (some (.slice none 0 0), 1, 24) := by kernel_rfl
def slF (n : Nat) (g : Nat → Nat) (k : Nat) : Nat → Value := fun i => if i < k then .slice (some ⟨g i, 0, none⟩) n n else .slice none 0 0
/-- The first k rows of a table, in the blocks g. -/
structure TB (w0 : World) (n : Nat) (g : Nat → Nat) (T : Nat → Nat → Int) (k : Nat) (wr : World) : Prop where
  bel : Below w0.heap.size w0 wr
  c : wr.rowIs (w0.heap.size + 1) 25 1 (fun _ => .slice (some ⟨w0.heap.size, 0, none⟩) n n)
  o : wr.rowIs w0.heap.size 37 n (slF n g k)
  r : ∀ i < k, wr.rowIs (g i) 3 n (rowF (T i)) ∧ w0.heap.size + 2 ≤ g i
  inj : ∀ i < k, ∀ j < k, g i = g j → i = j
theorem TB.start (w0 : World) (n : Nat) (g : Nat → Nat) (T : Nat → Nat → Int) : TB w0 n g T 0 ((w0.alloc (.cells (madeCells #[.slice none 0 0] n) 37)).alloc (.cells #[.slice (some ⟨w0.heap.size, 0, none⟩) n n] 25)) := by
  refine ⟨(bel_alloc _ _).alloc (by simp) _, ?_, ?_, fun i hi => by omega, fun i hi => by omega⟩
  · rw [show w0.heap.size + 1 = (w0.alloc (.cells (madeCells #[.slice none 0 0] n) 37)).heap.size by simp]
    refine World.rowIs_alloc _ _ _ _ ?_
    intro i hi
    have hi' : i < 1 := hi
    have : i = 0 := by omega
    subst this; rfl
  · exact ((World.rowIs_made w0 (.slice none 0 0) n 37).alloc _).congr fun i _ => by simp [slF]
section
variable {w0 : World} {n k : Nat} {g : Nat → Nat} {T : Nat → Nat → Int} {wr w' : World}
theorem TB.keep (h : TB w0 n g T k wr) (hb : Below wr.heap.size wr w') : TB w0 n g T k w' :=
  ⟨h.bel.trans (hb.mono h.bel.size), row_below h.c hb, row_below h.o hb, fun i hi => ⟨row_below (h.r i hi).1 hb, (h.r i hi).2⟩, h.inj⟩
theorem TB.cC (h : TB w0 n g T k wr) : wr.cell? ⟨w0.heap.size + 1, 0, none⟩ = some (.slice (some ⟨w0.heap.size, 0, none⟩) n n) := h.c.cell (i := 0) (by omega)
theorem TB.cO (h : TB w0 n g T k wr) {i : Nat} (hi : i < k) (hk : k ≤ n) : wr.cell? ⟨w0.heap.size, i, none⟩ = some (.slice (some ⟨g i, 0, none⟩) n n) := by
  rw [h.o.cell (i := i) (by omega), slF, if_pos hi]
theorem TB.cR (h : TB w0 n g T k wr) {i j : Nat} (hi : i < k) (hj : j < n) : wr.cell? ⟨g i, j, none⟩ = some (.int .i64 (T i j)) ∧ wr.frozen? ⟨g i, j, none⟩ = false := ⟨(h.r i hi).1.cell hj, (h.r i hi).1.frozen j⟩
theorem TB.hi (h : TB w0 n g T k wr) : w0.heap.size + 2 ≤ wr.heap.size := by have := h.c.lt; omega
/-- A number more. -/
theorem TB.store (h : TB w0 n g T k wr) {s t : Nat} (hs : s < k) (x : Int) : TB w0 n g (upT T s t x) k (wr.setCell ⟨g s, t, none⟩ (.int .i64 x)) := by
  have hg := (h.r s hs).2
  refine ⟨h.bel.setCell (by show w0.heap.size ≤ g s; omega) _, h.c.setOther (by show w0.heap.size + 1 ≠ g s; omega) _, h.o.setOther (by show w0.heap.size ≠ g s; omega) _, fun i hi => ⟨?_, (h.r i hi).2⟩, h.inj⟩
  by_cases e : i = s
  · subst e
    refine ((h.r i hi).1.set t (.int .i64 x)).congr fun j _ => ?_
    unfold rowF upT
    by_cases e2 : j = t
    · simp [e2]
    · simp [e2]
  · refine ((h.r i hi).1.setOther (by show g i ≠ g s; exact fun h2 => e (h.inj i hi s hs h2)) _).congr fun j _ => ?_
    unfold rowF upT
    simp [e]
theorem TB.congr {T' : Nat → Nat → Int} (h : TB w0 n g T k wr) (e : ∀ i < k, ∀ j < n, T i j = T' i j) : TB w0 n g T' k wr :=
  ⟨h.bel, h.c, h.o, fun i hi => ⟨(h.r i hi).1.congr fun j hj => by unfold rowF; rw [e i hi j hj], (h.r i hi).2⟩, h.inj⟩
theorem TB.mt (h : TB w0 n g T n wr) (hn : n ≤ 1000) : Mt wr (.slice (some ⟨w0.heap.size, 0, none⟩) n n) n n T := by
  refine ⟨(List.range n).map (fun i => .slice (some ⟨g i, 0, none⟩) n n), ?_, ?_⟩
  · refine ⟨_, _, rfl, by simp, Nat.le_refl _, by omega, .inr ⟨w0.heap.size, 0, rfl, fun j x hj => ?_⟩⟩
    have hl := lt_of_some hj
    simp only [List.length_map, List.length_range] at hl
    rw [List.getElem?_map, List.getElem?_range hl] at hj
    simp only [Option.map_some, Option.some.injEq] at hj
    subst hj
    rw [Nat.zero_add]
    exact h.cO hl (Nat.le_refl _)
  · intro i hi
    exact ⟨_, by simp [hi], Sl.of_row (h.r i hi).1 (by omega)⟩
end
/-- The same, with a row more that is filled in part. -/
structure TBp (w0 : World) (n : Nat) (g : Nat → Nat) (T : Nat → Nat → Int) (k b t : Nat) (wr : World) : Prop where
  bel : Below w0.heap.size w0 wr
  c : wr.rowIs (w0.heap.size + 1) 25 1 (fun _ => .slice (some ⟨w0.heap.size, 0, none⟩) n n)
  o : wr.rowIs w0.heap.size 37 n (slF n (upG g k b) (k + 1))
  r : ∀ i < k, wr.rowIs (g i) 3 n (rowF (T i)) ∧ w0.heap.size + 2 ≤ g i
  inj : ∀ i < k, ∀ j < k, g i = g j → i = j
  rb : wr.rowIs b 3 n (partF (T k) t)
  hb : w0.heap.size + 2 ≤ b
  ne : ∀ i < k, g i ≠ b
section
variable {w0 : World} {n k b t : Nat} {g : Nat → Nat} {T : Nat → Nat → Int} {wr w' : World}
theorem TB.row (h : TB w0 n g T k wr) (hk : k < n) : TBp w0 n g T k wr.heap.size 0 ((wr.alloc (.cells (madeCells #[.int .i64 0] n) 3)).setCell ⟨w0.heap.size, k, none⟩ (.slice (some ⟨wr.heap.size, 0, none⟩) n n)) := by
  have h1 := h.keep (bel_alloc wr (.cells (madeCells #[.int .i64 0] n) 3))
  have hhi := h.hi
  refine ⟨h1.bel.setCell (by show w0.heap.size ≤ w0.heap.size; omega) _, h1.c.setOther (by show w0.heap.size + 1 ≠ w0.heap.size; omega) _, (h1.o.set k _).congr fun i _ => ?_, fun i hi => ⟨(h1.r i hi).1.setOther (by have := (h1.r i hi).2; show g i ≠ w0.heap.size; omega) _, (h1.r i hi).2⟩, h1.inj, ((World.rowIs_made wr (.int .i64 0) n 3).setOther (by show wr.heap.size ≠ w0.heap.size; omega) _).congr fun i _ => by simp [partF], hhi, fun i hi e => ?_⟩
  · unfold slF upG
    by_cases e : i = k
    · subst e; simp
    · rw [if_neg e]
      by_cases e2 : i < k
      · rw [if_pos e2, if_pos (by omega), if_neg e]
      · rw [if_neg e2, if_neg (by omega)]
  · have := (h.r i hi).1.lt; omega
theorem TBp.cC (h : TBp w0 n g T k b t wr) : wr.cell? ⟨w0.heap.size + 1, 0, none⟩ = some (.slice (some ⟨w0.heap.size, 0, none⟩) n n) := h.c.cell (i := 0) (by omega)
theorem TBp.cO (h : TBp w0 n g T k b t wr) (hk : k < n) : wr.cell? ⟨w0.heap.size, k, none⟩ = some (.slice (some ⟨b, 0, none⟩) n n) := by
  rw [h.o.cell (i := k) hk, slF, if_pos (by omega), upG, if_pos rfl]
theorem TBp.set (h : TBp w0 n g T k b t wr) : TBp w0 n g T k b (t + 1) (wr.setCell ⟨b, t, none⟩ (.int .i64 (T k t))) := by
  have hb := h.hb
  refine ⟨h.bel.setCell (by show w0.heap.size ≤ b; omega) _, h.c.setOther (by show w0.heap.size + 1 ≠ b; omega) _, h.o.setOther (by show w0.heap.size ≠ b; omega) _, fun i hi => ⟨(h.r i hi).1.setOther (h.ne i hi) _, (h.r i hi).2⟩, h.inj, (h.rb.set t _).congr fun i _ => ?_, h.hb, h.ne⟩
  unfold partF
  by_cases e : i = t
  · subst e; rw [if_pos rfl, if_pos (by omega)]
  · rw [if_neg e]
    by_cases e2 : i < t
    · rw [if_pos e2, if_pos (by omega)]
    · rw [if_neg e2, if_neg (by omega)]
theorem TBp.drew (h : TBp w0 n g T k b t wr) : TBp w0 n g T k b t wr.drew := ⟨below_drewN h.bel 1, h.c.drew, h.o.drew, fun i hi => ⟨(h.r i hi).1.drew, (h.r i hi).2⟩, h.inj, h.rb.drew, h.hb, h.ne⟩
theorem TBp.skip (h : TBp w0 n g T k b t wr) (h0 : T k t = 0) : TBp w0 n g T k b (t + 1) wr := by
  refine ⟨h.bel, h.c, h.o, h.r, h.inj, h.rb.congr fun i _ => ?_, h.hb, h.ne⟩
  unfold partF
  by_cases e : i = t
  · subst e; rw [if_neg (by omega), if_pos (by omega), h0]
  · by_cases e2 : i < t
    · rw [if_pos e2, if_pos (by omega)]
    · rw [if_neg e2, if_neg (by omega)]
theorem TBp.done (h : TBp w0 n g T k b n wr) : TB w0 n (upG g k b) T (k + 1) wr := by
  refine ⟨h.bel, h.c, h.o, fun i hi => ?_, fun i hi j hj e => ?_⟩
  · unfold upG
    by_cases e : i = k
    · subst e; rw [if_pos rfl]; exact ⟨h.rb.congr fun j hj => by rw [partF, if_pos hj]; rfl, h.hb⟩
    · rw [if_neg e]; exact h.r i (by omega)
  · unfold upG at e
    by_cases e1 : i = k
    · by_cases e2 : j = k
      · omega
      · rw [if_pos e1, if_neg e2] at e
        exact absurd e.symm (h.ne j (by omega))
    · by_cases e2 : j = k
      · rw [if_neg e1, if_pos e2] at e
        exact absurd e (h.ne i (by omega))
      · rw [if_neg e1, if_neg e2] at e
        exact h.inj i (by omega) j (by omega) e
end

/-- Within a sweep over the pairs: T before it, T' now, c: has a number been laid? -/
def Swept (n q : Nat) (nx : Nat → Nat → Nat) (T T' : Nat → Nat → Int) (c : Bool) (s t : Nat) : Prop :=
  (c = false → T' = T ∧ ∀ s' t', ((s' < s ∧ t' < n) ∨ (s' = s ∧ t' < t)) → T s' t' = -1 → mostK nx T s' t' q = none) ∧ (c = true → openN n T' < openN n T)
section
variable {n q s t : Nat} {nx : Nat → Nat → Nat} {T T' : Nat → Nat → Int} {c : Bool}
theorem Swept.start : Swept n q nx T T false 0 0 := ⟨fun _ => ⟨rfl, fun s' t' h => by omega⟩, fun h => by cases h⟩
theorem Swept.full (h : Swept n q nx T T' c s t) (h1 : T' s t ≠ -1) : Swept n q nx T T' c s (t + 1) := by
  refine ⟨fun hc => ?_, h.2⟩
  obtain ⟨h2, h3⟩ := h.1 hc
  refine ⟨h2, fun s' t' h4 h5 => ?_⟩
  by_cases e : s' = s ∧ t' = t
  · obtain ⟨rfl, rfl⟩ := e
    rw [h2] at h1
    exact absurd h5 h1
  · exact h3 s' t' (by omega) h5
theorem Swept.stuck (h : Swept n q nx T T' c s t) (h1 : mostK nx T' s t q = none) : Swept n q nx T T' c s (t + 1) := by
  refine ⟨fun hc => ?_, h.2⟩
  obtain ⟨h2, h3⟩ := h.1 hc
  refine ⟨h2, fun s' t' h4 h5 => ?_⟩
  by_cases e : s' = s ∧ t' = t
  · obtain ⟨rfl, rfl⟩ := e
    rw [h2] at h1
    exact h1
  · exact h3 s' t' (by omega) h5
theorem Swept.more (h : Swept n q nx T T' c s t) {m : Int} (hs : s < n) (ht : t < n) (h1 : T' s t = -1) (hm : 0 ≤ m) (t' : Nat) : Swept n q nx T (upT T' s t (m + 1)) true s t' := by
  refine ⟨fun h => (by cases h), fun _ => ?_⟩
  have h2 := openN_up (x := m + 1) hs ht h1 (by omega)
  cases c with
  | false => rw [(h.1 rfl).1] at h2 ⊢; exact h2
  | true => exact Nat.lt_trans h2 (h.2 rfl)
theorem Swept.line (h : Swept n q nx T T' c s n) : Swept n q nx T T' c (s + 1) 0 :=
  ⟨fun hc => ⟨(h.1 hc).1, fun s' t' h4 h5 => (h.1 hc).2 s' t' (by omega) h5⟩, h.2⟩
theorem Swept.done (h : Swept n q nx T T' false n 0) (hp : PreTab n q nx T) : T' = T ∧ IsTab n q nx T :=
  ⟨(h.1 rfl).1, { toPreTab := hp, full := fun s hs t ht h5 => (h.1 rfl).2 s t (by omega) h5 }⟩
end
end Go.Proofs.YtjcdddccnfiemaaDoor
