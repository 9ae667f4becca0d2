/-
  What grooveref45.table keeps in memory: rows made one by one and appended, then filled in place.
  No condition.
-/
import Derived.Test.YtalklhjmnoodeaaRefOfA
import Derived.Test.YtalklhjmnoodeaaTabA
namespace Go.Proofs.Ytalklhjmnoodeaa
open Go.RowKit Go.Deep
set_option linter.unusedVariables false

theorem set_grown (w : World) (b t : Nat) (v : Value) : w.grownBy (w.setCell ⟨b, t, none⟩ v) (some b) :=
  ⟨rfl, rfl, rfl, by simp, fun k hk hne => Below.heap_setCell _ _ _ k (fun e => hne (by rw [e]))⟩
/-- A table of k rows of n numbers, which the call owns. -/
structure RT (w0 : World) (n k : Nat) (u : Value) (g : Nat → Nat) (T : Nat → Nat → Int) (wr : World) : Prop where
  bel : Below w0.heap.size w0 wr
  R : Rws wr w0.heap.size n k u g T
  inj : ∀ i < k, ∀ j < k, g i = g j → i = j
/-- The same, with a row b of which t numbers are laid. -/
structure RTp (w0 : World) (n k : Nat) (u : Value) (g : Nat → Nat) (T : Nat → Nat → Int) (b t : Nat) (wr : World) : Prop where
  rt : RT w0 n k u g T wr
  rb : wr.rowIs b 3 n (partF (T k) t)
  hb : w0.heap.size ≤ b
  ne : ∀ i < k, g i ≠ b
section
variable {w0 wr w' : World} {n k b t : Nat} {u u' : Value} {g : Nat → Nat} {T : Nat → Nat → Int}
theorem RT.start (w0 : World) (n : Nat) (g : Nat → Nat) (T : Nat → Nat → Int) : RT w0 n 0 (.slice none 0 0) g T w0 := ⟨Below.refl _ _, Rws.start _ _ _ _ _, fun i hi => by omega⟩
theorem RT.keep (h : RT w0 n k u g T wr) (hb : Below wr.heap.size wr w') : RT w0 n k u g T w' := ⟨bel_step h.bel hb, h.R.keep hb, h.inj⟩
theorem RT.made (h : RT w0 n k u g T wr) : RTp w0 n k u g T wr.heap.size 0 (wr.alloc (.cells (madeCells #[.int .i64 0] n) 3)) := by
  refine ⟨h.keep (bel_alloc _ _), (World.rowIs_made wr (.int .i64 0) n 3).congr fun i _ => by simp [partF], h.bel.size, fun i hi e => ?_⟩
  have := (h.R.r i hi).1
  rw [e] at this
  obtain ⟨c, hc, _⟩ := this
  have := (Array.getElem?_eq_some_iff.1 hc).1
  omega
/-- A store into the row that is being laid leaves the others. -/
theorem RT.other (h : RT w0 n k u g T wr) {F : Nat → Value} (hr : wr.rowIs b 3 n F) (hb : w0.heap.size ≤ b) (hne : ∀ i < k, g i ≠ b) (j : Nat) (v : Value) : RT w0 n k u g T (wr.setCell ⟨b, j, none⟩ v) := by
  refine ⟨h.bel.setCell (by exact hb) _, ⟨h.R.o.kept (set_grown wr b j v) ?_, fun i hi => ⟨(h.R.r i hi).1.setOther (by exact hne i hi) _, (h.R.r i hi).2⟩⟩, h.inj⟩
  cases hu : u.ownBlock with
  | none => exact .inl rfl
  | some c =>
    right
    have := row_apart hr h.R.o (by decide)
    rw [hu] at this
    exact fun e => this e.symm
theorem RTp.one (h : RTp w0 n k u g T b t wr) (ht : t < n) {x : Int} (hx : x = T k t) : RTp w0 n k u g T b (t + 1) (wr.setCell ⟨b, t, none⟩ (.int .i64 x)) := by
  refine ⟨h.rt.other h.rb h.hb h.ne _ _, (h.rb.set t _).congr fun i hi => ?_, h.hb, h.ne⟩
  unfold partF
  by_cases e : i = t
  · subst e; rw [if_pos rfl, if_pos (by omega), hx]
  · rw [if_neg e]
    by_cases e2 : i < t
    · rw [if_pos e2, if_pos (by omega)]
    · rw [if_neg e2, if_neg (by omega)]
theorem RTp.two (h : RTp w0 n k u g T b t wr) (ht : t < n) {x : Int} (y : Int) (hx : x = T k t) : RTp w0 n k u g T b (t + 1) ((wr.setCell ⟨b, t, none⟩ (.int .i64 y)).setCell ⟨b, t, none⟩ (.int .i64 x)) := by
  refine ⟨(h.rt.other h.rb h.hb h.ne _ _).other (h.rb.set t _) h.hb h.ne _ _, ((h.rb.set t _).set t _).congr fun i hi => ?_, h.hb, h.ne⟩
  unfold partF
  by_cases e : i = t
  · subst e; rw [if_pos rfl, if_pos (by omega), hx]
  · rw [if_neg e, if_neg e]
    by_cases e2 : i < t
    · rw [if_pos e2, if_pos (by omega)]
    · rw [if_neg e2, if_neg (by omega)]
theorem RTp.done (h : RTp w0 n k u g T b n wr) (hg : wr.grownBy w' u.ownBlock) (ho : w'.ownsRow w0.heap.size 41 1 u' (k + 1) (slV n g k ++ [.slice (some ⟨b, 0, none⟩) n n])) : RT w0 n (k + 1) u' (upG g k b) T w' := by
  refine ⟨h.rt.bel.grown hg h.rt.bel.size fun j hj => (own_block h.rt.R.o hj).1, h.rt.R.push hg ho (h.rb.congr fun j hj => by rw [partF, if_pos hj]; rfl) h.hb, fun i hi j hj e => ?_⟩
  unfold upG at e
  by_cases e1 : i = k
  · by_cases e2 : j = k
    · omega
    · rw [if_pos e1, if_neg e2] at e
      exact absurd e.symm (h.ne j (by omega))
  · by_cases e2 : j = k
    · rw [if_neg e1, if_pos e2] at e
      exact absurd e (h.ne i (by omega))
    · rw [if_neg e1, if_neg e2] at e
      exact h.rt.inj i (by omega) j (by omega) e
theorem RT.upd (h : RT w0 n k u g T wr) {s t : Nat} (hs : s < k) (x : Int) : RT w0 n k u g (upT T s t x) (wr.setCell ⟨g s, t, none⟩ (.int .i64 x)) := by
  have hg := h.R.r s hs
  refine ⟨h.bel.setCell (by exact hg.2) _, ⟨h.R.o.kept (set_grown wr (g s) t _) ?_, fun i hi => ⟨?_, (h.R.r i hi).2⟩⟩, h.inj⟩
  · cases hu : u.ownBlock with
    | none => exact .inl rfl
    | some c =>
      right
      have := row_apart hg.1 h.R.o (by decide)
      rw [hu] at this
      exact fun e => this e.symm
  · by_cases e : i = s
    · subst e
      refine (hg.1.set t _).congr fun j hj => ?_
      unfold rowF upT
      by_cases e2 : j = t
      · subst e2; simp
      · simp [e2]
    · refine ((h.R.r i hi).1.setOther (fun e2 => e (h.inj i hi s hs e2)) _).congr fun j hj => ?_
      unfold rowF
      rw [upT_far (fun e3 => e e3.1)]
theorem RT.cell (h : RT w0 n k u g T wr) {s t : Nat} (hs : s < k) (ht : t < n) : wr.cell? ⟨g s, t, none⟩ = some (.int .i64 (T s t)) ∧ wr.frozen? ⟨g s, t, none⟩ = false := ⟨(h.R.r s hs).1.cell ht, (h.R.r s hs).1.frozen t⟩
end
end Go.Proofs.Ytalklhjmnoodeaa
