/-
  What lies in memory while grooveref45.Synchronizing works: the queue of sets and words, and the row of what was seen.
  No condition: these are general lemmas.
-/
import Derived.Test.YtalklhjmnoodeaaRefGreatest
import Derived.Test.YtalklhjmnoodeaaSyncW
namespace Go.Proofs.Ytalklhjmnoodeaa
open Go.RowKit Go.Deep
set_option linter.unusedVariables false

theorem Try.infoReached2 : (Try.prog.info? 88).map (fun i => (i.zero, i.size, i.bytes)) = some (some (.agg #[.int .i64 0, .string ⟨#[]⟩]), 2, 24) := by kernel_rfl
theorem toStr_snoc (l : List Nat) (a : Nat) : toStr l ++ letW a = toStr (l ++ [a]) := by
  apply ba_ext
  simp [toStr, letW]
def rEnc (e : Ent) : List Value := [.int .i64 (e.set : Int), .string (toStr e.word)]
def rcells (Q : List Ent) : List Value := Q.flatMap rEnc
theorem rcells_len (Q : List Ent) : (rcells Q).length = Q.length * 2 := by
  induction Q with
  | nil => rfl
  | cons e Q ih =>
    have : rcells (e :: Q) = rEnc e ++ rcells Q := by simp [rcells]
    rw [this, List.length_append, ih, List.length_cons]
    simp [rEnc]; omega
theorem rcells_snoc (Q : List Ent) (e : Ent) : rcells (Q ++ [e]) = rcells Q ++ rEnc e := by simp [rcells]
theorem rcells_get {Q : List Ent} {i : Nat} {e : Ent} (h : Q[i]? = some e) : (rcells Q)[i * 2]? = some (.int .i64 (e.set : Int)) ∧ (rcells Q)[i * 2 + 1]? = some (.string (toStr e.word)) := by
  have hl := lt_of_some h
  have hs : Q = Q.take i ++ e :: Q.drop (i + 1) := by rw [← drop_cons h, List.take_append_drop]
  have hlen : (rcells (Q.take i)).length = i * 2 := by rw [rcells_len, List.length_take]; congr 1; omega
  have he : rcells Q = rcells (Q.take i) ++ (rEnc e ++ rcells (Q.drop (i + 1))) := by
    conv => lhs; rw [hs]
    simp [rcells]
  rw [he]
  refine ⟨?_, ?_⟩
  all_goals
    rw [List.getElem?_append_right (by omega), hlen]
  · simp [rEnc]
  · rw [show i * 2 + 1 - i * 2 = 1 by omega]; simp [rEnc]
/-- The queue, and the row of what was seen. -/
structure SR (wp : World) (S N : Nat) (Q : List Ent) (u : Value) (wr : World) : Prop where
  bel : Below wp.heap.size wp wr
  row : wr.ownsRow wp.heap.size 88 2 u Q.length (rcells Q)
  s : wr.rowIs S 4 N (fun i => .bool (seenQ Q i))
  lS : wp.heap.size ≤ S
section
variable {wp : World} {S N : Nat} {Q : List Ent} {u u' : Value} {wr w' : World}
theorem SR.keep (h : SR wp S N Q u wr) (hb : Below wr.heap.size wr w') : SR wp S N Q u w' := ⟨h.bel.trans (hb.mono h.bel.size), own_below h.row hb, row_below h.s hb, h.lS⟩
theorem SR.slice (h : SR wp S N Q u wr) (h0 : 0 < Q.length) : ∃ g c, u = .slice (some ⟨g, 0, none⟩) Q.length c := by
  rcases h.row.2 with ⟨_, hz⟩ | ⟨g, cap, cur, hv, _⟩
  · omega
  · exact ⟨g, cap, hv⟩
/-- Behind the mark of a new set. -/
theorem SR.marked (h : SR wp S N Q u wr) (ts : Nat) : Below wp.heap.size wp (wr.setCell ⟨S, ts, none⟩ (.bool true)) ∧ (wr.setCell ⟨S, ts, none⟩ (.bool true)).ownsRow wp.heap.size 88 2 u Q.length (rcells Q) ∧ (wr.setCell ⟨S, ts, none⟩ (.bool true)).rowIs S 4 N (fun j => if j = ts then .bool true else .bool (seenQ Q j)) := by
  refine ⟨h.bel.setCell h.lS _, own_same h.row fun g hg => blk_setCell_other _ _ _ _ ?_, h.s.set ts _⟩
  intro e
  have e : g = S := e
  subst e
  exact row_apart h.s h.row (by decide) hg.symm
theorem SR.push (h : SR wp S N Q u wr) {ts : Nat} {l : List Nat} {Wa w2 : World}
    (hW : Below (wr.setCell ⟨S, ts, none⟩ (.bool true)).heap.size (wr.setCell ⟨S, ts, none⟩ (.bool true)) Wa) (hg : Wa.grownBy w2 u.ownBlock)
    (ho : w2.ownsRow wp.heap.size 88 2 u' (Q.length + 1) (rcells Q ++ [.int .i64 (ts : Int), .string (toStr l)])) :
    SR wp S N (Q ++ [⟨ts, l⟩]) u' w2 := by
  obtain ⟨m1, m2, m3⟩ := h.marked ts
  have m2a := own_below m2 hW
  have m3a := row_below m3 hW
  refine ⟨(bel_step m1 hW).grown hg (bel_step m1 hW).size fun k hk => (own_block m2a hk).1, ?_, (row_grown m3a hg (row_apart m3a m2a (by decide))).congr fun j _ => ?_, h.lS⟩
  · rw [List.length_append, rcells_snoc]; exact ho
  · rw [seenQ_snoc]
    by_cases e : j = ts
    · subst e; simp
    · have : (ts == j) = false := by simp; omega
      simp [e, this]
theorem SR.cells {g c : Nat} (h : SR wp S N Q (.slice (some ⟨g, 0, none⟩) Q.length c) wr) {i : Nat} {e : Ent} (hl : Q[i]? = some e) :
    wr.cell? ⟨g, i * 2, none⟩ = some (.int .i64 (e.set : Int)) ∧ wr.cell? ⟨g, i * 2 + 1, none⟩ = some (.string (toStr e.word)) := by
  obtain ⟨h0, h1⟩ := rcells_get hl
  have key : ∀ j v, (rcells Q)[j]? = some v → wr.cell? ⟨g, j, none⟩ = some v := fun j v hj => by
    obtain ⟨b, o, e, hc⟩ := (Sl.of_owns h.row).cell hj
    simp only [Option.some.injEq, Addr.mk.injEq, and_true] at e
    obtain ⟨rfl, rfl⟩ := e
    rw [Nat.zero_add] at hc
    exact hc
  exact ⟨key _ _ h0, key _ _ h1⟩
end
/-- The start: the row first, then the queue, then the mark. -/
theorem SR.begin (wp : World) (n N M : Nat) (h1 : 2 ^ n = N) (h2 : N - 1 = M) (hM : M < N) : SR wp wp.heap.size N (startQ n) (.slice (some ⟨wp.heap.size + 1, 0, none⟩) 1 1)
    ((wp.alloc (.cells ((madeCells #[.bool false] N).setIfInBounds M (.bool true)) 4)).alloc (.cells #[.int .i64 (M : Int), .string ⟨#[]⟩] 88)) := by
  have ho := own_lit (wp.alloc (.cells ((madeCells #[.bool false] N).setIfInBounds M (.bool true)) 4)) 88 #[.int .i64 (M : Int), .string ⟨#[]⟩] 2 1 rfl (by unfold maxLen; omega)
  rw [World.size_alloc] at ho
  refine ⟨(bel_alloc _ _).alloc (by simp) _, ?_, ?_, Nat.le_refl _⟩
  · have h4 := own_base ho (Nat.le_succ wp.heap.size)
    have e : rcells (startQ n) = [.int .i64 (M : Int), .string ⟨#[]⟩] := by rw [← h2, ← h1]; rfl
    rw [e]
    exact h4
  · have hrow := World.rowIs_alloc wp ((madeCells #[.bool false] N).setIfInBounds M (.bool true)) 4 (fun i => .bool (seenQ (startQ n) i)) ?_
    · rw [Array.size_setIfInBounds, size_madeCells] at hrow
      exact World.rowIs.alloc hrow _
    · intro j hj
      rw [Array.size_setIfInBounds] at hj
      have hj' : j < N := by simpa [size_madeCells] using hj
      have e : seenQ (startQ n) j = (M == j) := by simp only [seenQ, startQ, List.any_cons, List.any_nil, Bool.or_false, h1, h2]
      rw [Array.getElem?_setIfInBounds, e]
      by_cases e2 : M = j
      · subst e2; simp [size_madeCells, hj']
      · rw [if_neg e2]
        have : (M == j) = false := by simp; omega
        rw [this]
        simp [madeCells, hj', Nat.mod_one]
def WQ (Q : List Ent) : Prop := ∀ (i : Nat) (e : Ent), Q[i]? = some e → e.word.length ≤ i
theorem wq_start (n : Nat) : WQ (startQ n) := by
  intro i e h
  have hi := lt_of_some h
  simp only [startQ, List.length_cons, List.length_nil] at hi
  have : i = 0 := by omega
  subst this
  simp only [startQ, List.getElem?_cons_zero, Option.some.injEq] at h
  subst h; simp
theorem wq_expand {nx : Nat → Nat → Nat} {n k : Nat} {Qs : List Ent} {x : Ent} (h : WQ Qs) (hx : Qs[k]? = some x) (a : Nat) : WQ (expandK nx n Qs x a) := by
  induction a with
  | zero => exact h
  | succ a ih =>
    rw [expandK]
    split
    · exact ih
    · intro i e he
      by_cases hi : i < (expandK nx n Qs x a).length
      · rw [List.getElem?_append_left hi] at he
        exact ih i e he
      · have hl := lt_of_some he
        simp only [List.length_append, List.length_cons, List.length_nil] at hl
        have e1 : i = (expandK nx n Qs x a).length := by omega
        subst e1
        rw [List.getElem?_append_right (Nat.le_refl _), Nat.sub_self, List.getElem?_cons_zero, Option.some.injEq] at he
        subst he
        have h1 := h k x hx
        obtain ⟨r, hr⟩ := expandK_pre nx n Qs x a
        have h2 := lt_of_some hx
        rw [hr]
        simp only [List.length_append, List.length_cons, List.length_nil]
        omega
end Go.Proofs.Ytalklhjmnoodeaa
