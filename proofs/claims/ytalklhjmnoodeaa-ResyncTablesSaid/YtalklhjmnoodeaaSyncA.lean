/-
  What lies in memory while resync.Synchronizing works: the queue and the sets that were seen.
  No condition: these are general lemmas.
-/
import Derived.Test.YtalklhjmnoodeaaTable45
import Derived.Test.YtalklhjmnoodeaaSyncLaw
namespace Go.Proofs.Ytalklhjmnoodeaa
open Go.RowKit Go.Deep
set_option linter.unusedVariables false

theorem Try.infoReached : (Try.prog.info? 84).map (fun i => (i.zero, i.size, i.bytes)) = some (some (.agg #[.int .i64 0, .int .i64 0, .int .i64 0]), 3, 24) := by kernel_rfl
theorem Try.infoBool : (Try.prog.info? 4).map (fun i => (i.zero, i.size, i.bytes)) = some (some (.bool false), 1, 1) := by kernel_rfl
structure QE where
  set : Nat
  before : Int
  letter : Int
def QE.enc (e : QE) : List Value := [.int .i64 (e.set : Int), .int .i64 e.before, .int .i64 e.letter]
def qcells (L : List QE) : List Value := L.flatMap QE.enc
theorem qcells_len (L : List QE) : (qcells L).length = L.length * 3 := by
  induction L with
  | nil => rfl
  | cons e L ih =>
    have : qcells (e :: L) = QE.enc e ++ qcells L := by simp [qcells]
    rw [this, List.length_append, ih, List.length_cons]
    simp [QE.enc]; omega
theorem qcells_snoc (L : List QE) (e : QE) : qcells (L ++ [e]) = qcells L ++ QE.enc e := by simp [qcells]
theorem qcells_get {L : List QE} {i : Nat} {e : QE} (h : L[i]? = some e) : (qcells L)[i * 3]? = some (.int .i64 (e.set : Int)) ∧ (qcells L)[i * 3 + 1]? = some (.int .i64 e.before) ∧ (qcells L)[i * 3 + 2]? = some (.int .i64 e.letter) := by
  have hl := lt_of_some h
  have hs : L = L.take i ++ e :: L.drop (i + 1) := by rw [← drop_cons h, List.take_append_drop]
  have hlen : (qcells (L.take i)).length = i * 3 := by rw [qcells_len, List.length_take]; congr 1; omega
  have he : qcells L = qcells (L.take i) ++ (QE.enc e ++ qcells (L.drop (i + 1))) := by
    conv => lhs; rw [hs]
    simp [qcells]
  rw [he]
  refine ⟨?_, ?_, ?_⟩
  all_goals
    rw [List.getElem?_append_right (by omega), hlen]
  · simp [QE.enc]
  · rw [show i * 3 + 1 - i * 3 = 1 by omega]; simp [QE.enc]
  · rw [show i * 3 + 2 - i * 3 = 2 by omega]; simp [QE.enc]
theorem own_same {w w' : World} {base : Nat} {e : TypeId} {sz : Nat} {v : Value} {n : Nat} {xs : List Value} (h : w.ownsRow base e sz v n xs) (hs : ∀ g, v.ownBlock = some g → w'.heap[g]? = w.heap[g]?) : w'.ownsRow base e sz v n xs := by
  refine ⟨h.1, ?_⟩
  rcases h.2 with h2 | ⟨g, cap, cur, hv, hg, hh, r⟩
  · exact .inl h2
  · exact .inr ⟨g, cap, cur, hv, hg, by rw [hs g (by rw [hv]; rfl)]; exact hh, r⟩
theorem own_lit (w : World) (e : TypeId) (c : Array Value) (sz n : Nat) (hc : c.size = n * sz) (hn : n ≤ maxLen) : (w.alloc (.cells c e)).ownsRow w.heap.size e sz (.slice (some ⟨w.heap.size, 0, none⟩) n n) n c.toList := by
  refine ⟨by simpa using hc, .inr ⟨w.heap.size, n, c, rfl, Nat.le_refl _, heap_alloc_new w _, Nat.le_refl _, hn, hc, ?_⟩⟩
  rw [← hc]
  exact List.take_of_length_le (by simp)

/-- The queue as it lies, and as it is meant. -/
def QLink (q : Nat) (Q : List Ent) (L : List QE) : Prop :=
  L.length = Q.length ∧ ∀ i e l, Q[i]? = some e → L[i]? = some l → l.set = e.set ∧ ((l.before = -1 ∧ e.word = []) ∨ (∃ b a : Nat, l.before = (b : Int) ∧ l.letter = (a : Int) ∧ b < i ∧ a < q ∧ ∃ eb, Q[b]? = some eb ∧ e.word = eb.word ++ [a]))
theorem qlink_start (q n : Nat) : QLink q (startQ n) [⟨2 ^ n - 1, -1, -1⟩] := by
  refine ⟨rfl, fun i e l he hl => ?_⟩
  have hi := lt_of_some hl
  simp only [List.length_cons, List.length_nil] at hi
  have : i = 0 := by omega
  subst this
  simp only [startQ, List.getElem?_cons_zero, Option.some.injEq] at he hl
  subst he hl
  exact ⟨rfl, .inl ⟨rfl, rfl⟩⟩
theorem qlink_snoc {q : Nat} {Q : List Ent} {L : List QE} (h : QLink q Q L) {i a : Nat} {x : Ent} {ts : Nat} (hx : Q[i]? = some x) (ha : a < q) : QLink q (Q ++ [⟨ts, x.word ++ [a]⟩]) (L ++ [⟨ts, i, a⟩]) := by
  obtain ⟨h1, h2⟩ := h
  refine ⟨by simp [h1], fun j e l he hl => ?_⟩
  by_cases hj : j < Q.length
  · rw [List.getElem?_append_left hj] at he
    rw [List.getElem?_append_left (by omega)] at hl
    obtain ⟨g1, g2⟩ := h2 j e l he hl
    refine ⟨g1, g2.elim .inl fun ⟨b, a', e1, e2, e3, e4, eb, e5, e6⟩ => .inr ⟨b, a', e1, e2, e3, e4, eb, ?_, e6⟩⟩
    rw [List.getElem?_append_left (by have := lt_of_some e5; exact this)]
    exact e5
  · have hj2 := lt_of_some he
    simp only [List.length_append, List.length_cons, List.length_nil] at hj2
    have ej : j = Q.length := by omega
    subst ej
    rw [List.getElem?_append_right (Nat.le_refl _), Nat.sub_self, List.getElem?_cons_zero, Option.some.injEq] at he
    rw [List.getElem?_append_right (by omega), h1, Nat.sub_self, List.getElem?_cons_zero, Option.some.injEq] at hl
    subst he hl
    refine ⟨rfl, .inr ⟨i, a, rfl, rfl, lt_of_some hx, ha, x, ?_, rfl⟩⟩
    rw [List.getElem?_append_left (lt_of_some hx)]
    exact hx

/-- The queue, and the row of what was seen. -/
structure SQ (wp : World) (S N q : Nat) (Q : List Ent) (L : List QE) (u : Value) (wr : World) : Prop where
  bel : Below wp.heap.size wp wr
  row : wr.ownsRow wp.heap.size 84 3 u L.length (qcells L)
  s : wr.rowIs S 4 N (fun i => .bool (seenQ Q i))
  lS : wp.heap.size ≤ S
  link : QLink q Q L
section
variable {wp : World} {S N q : Nat} {Q : List Ent} {L : List QE} {u u' : Value} {wr w' : World}
theorem SQ.keep (h : SQ wp S N q Q L u wr) (hb : Below wr.heap.size wr w') : SQ wp S N q Q L u w' := ⟨h.bel.trans (hb.mono h.bel.size), own_below h.row hb, row_below h.s hb, h.lS, h.link⟩
theorem SQ.slice (h : SQ wp S N q Q L u wr) (h0 : 0 < L.length) : ∃ g c, u = .slice (some ⟨g, 0, none⟩) L.length c := by
  rcases h.row.2 with ⟨_, hz⟩ | ⟨g, cap, cur, hv, _⟩
  · omega
  · exact ⟨g, cap, hv⟩
/-- Behind the mark of a new set. -/
theorem SQ.marked (h : SQ wp S N q Q L u wr) (ts : Nat) : Below wp.heap.size wp (wr.setCell ⟨S, ts, none⟩ (.bool true)) ∧ (wr.setCell ⟨S, ts, none⟩ (.bool true)).ownsRow wp.heap.size 84 3 u L.length (qcells L) ∧ (wr.setCell ⟨S, ts, none⟩ (.bool true)).rowIs S 4 N (fun j => if j = ts then .bool true else .bool (seenQ Q j)) := by
  refine ⟨h.bel.setCell h.lS _, own_same h.row fun g hg => blk_setCell_other _ _ _ _ ?_, h.s.set ts _⟩
  intro e
  have e : g = S := e
  subst e
  exact row_apart h.s h.row (by decide) hg.symm
theorem SQ.push (h : SQ wp S N q Q L u wr) {i a ts : Nat} {x : Ent} (hx : Q[i]? = some x) (ha : a < q) {Wa w2 : World}
    (hW : Below (wr.setCell ⟨S, ts, none⟩ (.bool true)).heap.size (wr.setCell ⟨S, ts, none⟩ (.bool true)) Wa) (hg : Wa.grownBy w2 u.ownBlock)
    (ho : w2.ownsRow wp.heap.size 84 3 u' (L.length + 1) (qcells L ++ [.int .i64 (ts : Int), .int .i64 (i : Int), .int .i64 (a : Int)])) :
    SQ wp S N q (Q ++ [⟨ts, x.word ++ [a]⟩]) (L ++ [⟨ts, i, a⟩]) u' w2 := by
  obtain ⟨m1, m2, m3⟩ := h.marked ts
  have m2a := own_below m2 hW
  have m3a := row_below m3 hW
  refine ⟨(bel_step m1 hW).grown hg (bel_step m1 hW).size fun k hk => (own_block m2a hk).1, ?_, (row_grown m3a hg (row_apart m3a m2a (by decide))).congr fun j _ => ?_, h.lS, qlink_snoc h.link hx ha⟩
  · rw [List.length_append, qcells_snoc]; exact ho
  · rw [seenQ_snoc]
    by_cases e : j = ts
    · subst e; simp
    · have : (ts == j) = false := by simp; omega
      simp [e, this]
end
theorem SQ.begin (wp : World) (n N M q : Nat) (h1 : 2 ^ n = N) (h2 : N - 1 = M) : SQ wp (wp.heap.size + 1) N q (startQ n) [⟨M, -1, -1⟩] (.slice (some ⟨wp.heap.size, 0, none⟩) 1 1)
    ((wp.alloc (.cells #[.int .i64 (M : Int), .int .i64 (-1), .int .i64 (-1)] 84)).alloc (.cells ((madeCells #[.bool false] N).setIfInBounds M (.bool true)) 4)) := by
  refine ⟨(bel_alloc _ _).alloc (by simp) _, own_below (own_lit wp 84 _ 3 1 rfl (by unfold maxLen; omega)) (bel_alloc _ _), ?_, by omega, ?_⟩
  · have hrow := World.rowIs_alloc (wp.alloc (.cells #[.int .i64 (M : Int), .int .i64 (-1), .int .i64 (-1)] 84)) ((madeCells #[.bool false] N).setIfInBounds M (.bool true)) 4 (fun i => .bool (seenQ (startQ n) i)) ?_
    · rw [World.size_alloc, Array.size_setIfInBounds, size_madeCells] at hrow
      exact hrow
    · intro j hj
      rw [Array.size_setIfInBounds] at hj
      have hj' : j < N := by simpa [size_madeCells] using hj
      have e : seenQ (startQ n) j = (M == j) := by simp only [seenQ, startQ, List.any_cons, List.any_nil, Bool.or_false, h1, h2]
      rw [Array.getElem?_setIfInBounds, e]
      by_cases e2 : M = j
      · subst e2; simp [size_madeCells, hj']
      · rw [if_neg e2]
        have : (M == j) = false := by simp; omega
        rw [this]
        simp [madeCells, hj', Nat.mod_one]
  · have := qlink_start q n
    rw [h1, h2] at this
    exact this
theorem SQ.cells {wp : World} {S N q : Nat} {Q : List Ent} {L : List QE} {g c : Nat} {wr : World} (h : SQ wp S N q Q L (.slice (some ⟨g, 0, none⟩) L.length c) wr) {i : Nat} {l : QE} (hl : L[i]? = some l) :
    wr.cell? ⟨g, i * 3, none⟩ = some (.int .i64 (l.set : Int)) ∧ wr.cell? ⟨g, i * 3 + 1, none⟩ = some (.int .i64 l.before) ∧ wr.cell? ⟨g, i * 3 + 2, none⟩ = some (.int .i64 l.letter) := by
  obtain ⟨h0, h1, h2⟩ := qcells_get hl
  have key : ∀ j v, (qcells L)[j]? = some v → wr.cell? ⟨g, j, none⟩ = some v := fun j v hj => by
    obtain ⟨b, o, e, hc⟩ := (Sl.of_owns h.row).cell hj
    simp only [Option.some.injEq, Addr.mk.injEq, and_true] at e
    obtain ⟨rfl, rfl⟩ := e
    rw [Nat.zero_add] at hc
    exact hc
  exact ⟨key _ _ h0, key _ _ h1, key _ _ h2⟩
/-- Letters as a string. -/
def toStr (l : List Nat) : ByteArray := ⟨(l.map fun a => lettersL.getD a 0).toArray⟩
theorem toStr_cons (a : Nat) (l : List Nat) : letW a ++ toStr l = toStr (a :: l) := by
  apply ba_ext
  simp [toStr, letW]
theorem toStr_size (l : List Nat) : (toStr l).size = l.length := by simp [toStr, ← ba_len]
end Go.Proofs.Ytalklhjmnoodeaa
