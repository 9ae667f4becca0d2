/-
  The memory of the loop of the law ProgramBits: a program that grows in its box.
  No condition.
-/
import Derived.Test.YtgfeknjhkciooaaDoorBitsA
import Derived.Test.YtgfeknjhkciooaaDoorRfEmit
namespace Go.Proofs.YtgfeknjhkciooaaDoor
open Go.RowKit Go.Deep
set_option linter.unusedVariables false

structure LB (w7 : World) (B g5 N : Nat) (c : List Ins) (o : List Int) (kq ku : Nat) (vq uq : Value) (wr : World) : Prop where
  box : wr.heap[g5]? = some (.cells #[.int .i64 N, vq, uq] 25 (0, 0))
  oc : wr.ownsRow B 41 3 vq (c.length + kq) (icells (c ++ notL (o.take kq)))
  oo : wr.ownsRow w7.heap.size 3 1 uq ku (ints (notO (N + c.length) ku))
  sz : w7.heap.size ≤ wr.heap.size
  os : wr.os = w7.os
  tape : wr.tape = w7.tape
  output : wr.output = w7.output
  fr : ∀ k, k < w7.heap.size → k ≠ g5 → (k < B ∨ ∀ cs fl, w7.heap[k]? ≠ some (.cells cs 41 fl)) → wr.heap[k]? = w7.heap[k]?
section
variable {w7 : World} {B g5 N : Nat} {c : List Ins} {o : List Int} {kq ku : Nat} {vq uq : Value} {wr : World}
theorem LB.bel (h : LB w7 B g5 N c o kq ku vq uq wr) {A : Nat} (h1 : A ≤ B) (h2 : A ≤ g5) (h3 : B ≤ w7.heap.size) : Below A w7 wr :=
  ⟨h.os, h.tape, h.output, h.sz, fun k hk => h.fr k (by omega) (by omega) (.inl (by omega))⟩
theorem LB.cell (h : LB w7 B g5 N c o kq ku vq uq wr) {k j : Nat} {v : Value} (hc : w7.cell? ⟨k, j, none⟩ = some v) (h1 : k < B) (h2 : k ≠ g5) (h3 : B ≤ w7.heap.size) : wr.cell? ⟨k, j, none⟩ = some v := by
  rw [World.cell?_of_block (h.fr k (by omega) h2 (.inl h1))]; exact hc
theorem LB.pushU (h : LB w7 B g5 N c o kq ku vq uq wr) {w5 : World} {uq' : Value} (h5 : g5 < B) (hB : B ≤ w7.heap.size) (hg : wr.grownBy w5 uq.ownBlock) (ho : w5.ownsRow w7.heap.size 3 1 uq' (ku + 1) (ints (notO (N + c.length) (ku + 1)))) :
    LB w7 B g5 N c o kq (ku + 1) vq uq' (w5.setCell ⟨g5, 2, none⟩ uq') := by
  have hlt : g5 < wr.heap.size := (Array.getElem?_eq_some_iff.1 h.box).1
  have hne : some g5 ≠ uq.ownBlock := fun e => by have := (own_block h.oo e.symm).1; omega
  have kb := (hg.block g5 hlt hne).trans h.box
  refine ⟨by simp [World.setCell, Array.getElem?_modify, kb], ?_, own_set ho (a := ⟨g5, 2, none⟩) kb (by decide) _, by have := hg.size; have := h.sz; simp; omega, hg.os.trans h.os, hg.tape.trans h.tape, hg.output.trans h.output, fun k hk h1 h2 => ?_⟩
  · exact own_set (h.oc.kept hg (own_apart h.oc h.oo (by decide))) (a := ⟨g5, 2, none⟩) kb (by decide) _
  · refine ((Below.heap_setCell _ _ _ _ h1).trans (hg.block k (by have := h.sz; omega) fun e => ?_)).trans (h.fr k hk h1 h2)
    have := (own_block h.oo e.symm).1
    omega
theorem LB.pushC (h : LB w7 B g5 N c o kq ku vq uq wr) {w5 : World} {vq' : Value} (h5 : g5 < B) (hB : B ≤ w7.heap.size) (hg : wr.grownBy w5 vq.ownBlock) (ho : w5.ownsRow B 41 3 vq' (c.length + (kq + 1)) (icells (c ++ notL (o.take (kq + 1))))) :
    LB w7 B g5 N c o (kq + 1) ku vq' uq (w5.setCell ⟨g5, 1, none⟩ vq') := by
  have hlt : g5 < wr.heap.size := (Array.getElem?_eq_some_iff.1 h.box).1
  have hne : some g5 ≠ vq.ownBlock := fun e => by have := (own_block h.oc e.symm).1; omega
  have kb := (hg.block g5 hlt hne).trans h.box
  refine ⟨by simp [World.setCell, Array.getElem?_modify, kb], own_set ho (a := ⟨g5, 1, none⟩) kb (by decide) _, ?_, by have := hg.size; have := h.sz; simp; omega, hg.os.trans h.os, hg.tape.trans h.tape, hg.output.trans h.output, fun k hk h1 h2 => ?_⟩
  · exact own_set (h.oo.kept hg (own_apart h.oo h.oc (by decide))) (a := ⟨g5, 1, none⟩) kb (by decide) _
  · refine ((Below.heap_setCell _ _ _ _ h1).trans (hg.block k (by have := h.sz; omega) fun e => ?_)).trans (h.fr k hk h1 h2)
    obtain ⟨h3, cur, h4⟩ := own_block h.oc e.symm
    rcases h2 with h2 | h2
    · omega
    · exact h2 cur (0, 0) ((h.fr k hk h1 (.inr h2)).symm.trans h4)
theorem LB.ownInt (h : LB w7 B g5 N c o kq ku vq uq wr) {v : Value} {n : Nat} {xs : List Value} (h5 : g5 < B) (ho : w7.ownsRow B 3 1 v n xs) : wr.ownsRow B 3 1 v n xs := by
  obtain ⟨h0, h1⟩ := ho
  refine ⟨h0, ?_⟩
  rcases h1 with h1 | ⟨g, cap, cur, h1, h2, h3, h4⟩
  · exact .inl h1
  · refine .inr ⟨g, cap, cur, h1, h2, (h.fr g (Array.getElem?_eq_some_iff.1 h3).1 (by omega) (.inr fun cs fl e => ?_)).trans h3, h4⟩
    rw [h3] at e
    simp only [Option.some.injEq, Obj.cells.injEq] at e
    exact absurd e.2.1 (by decide)
/-- The three programs, once the outputs are turned. -/
structure Three (w w8 : World) (g5 g6 N : Nat) (c : List Ins) (o : List Int) (vc vo vq uq vr : Value) : Prop where
  b5 : w8.heap[g5]? = some (.cells #[.int .i64 N, vq, uq] 25 (0, 0))
  b6 : w8.heap[g6]? = some (.cells #[.int .i64 N, vc, vr] 25 (0, 0))
  c0 : w8.cell? ⟨w.heap.size, 0, none⟩ = some (.int .i64 N)
  c1 : w8.cell? ⟨w.heap.size, 1, none⟩ = some vc
  c2 : w8.cell? ⟨w.heap.size, 2, none⟩ = some vo
  sq : Sl 3 w8 vq (c ++ notL o).length (icells (c ++ notL o))
  su : Sl 1 w8 uq (notO (N + c.length) o.length).length (ints (notO (N + c.length) o.length))
  sr : Sl 1 w8 vr o.reverse.length (ints o.reverse)
  bel : Below w.heap.size w w8
theorem LB.three {w w8 : World} {g6 : Nat} {vc vo vr : Value} (h : LB w7 B g5 N c o o.length o.length vq uq wr) (h5 : g5 < B) (h6 : g6 < B) (hne : g5 ≠ g6) (hw5 : w.heap.size ≠ g5) (hwB : w.heap.size < B) (hw5' : w.heap.size < g5) (hB : B ≤ w7.heap.size) (hb7 : Below w.heap.size w w7)
    (k6 : w7.heap[g6]? = some (.cells #[.int .i64 N, vc, vr] 25 (0, 0))) (c0 : w7.cell? ⟨w.heap.size, 0, none⟩ = some (.int .i64 N)) (c1 : w7.cell? ⟨w.heap.size, 1, none⟩ = some vc) (c2 : w7.cell? ⟨w.heap.size, 2, none⟩ = some vo)
    (hor : w7.ownsRow B 3 1 vr o.length (ints o)) (ho8 : w8.ownsRow B 3 1 vr o.length (ints o.reverse)) (hg8 : wr.grownBy w8 vr.ownBlock) :
    Three w w8 g5 g6 N c o vc vo vq uq vr := by
  have hvr : ∀ k, k < B → some k ≠ vr.ownBlock := fun k hk e => by have := (own_block ho8 e.symm).1; omega
  have hsz := h.sz
  have hcell : ∀ j v, w7.cell? ⟨w.heap.size, j, none⟩ = some v → w8.cell? ⟨w.heap.size, j, none⟩ = some v := fun j v hc => by
    rw [World.cell?_of_block (hg8.block w.heap.size (by omega) (hvr _ hwB))]
    exact h.cell hc hwB hw5 hB
  have horr := h.ownInt h5 hor
  have hq := h.oc.kept hg8 (own_apart h.oc horr (by decide))
  have hu := h.oo.kept hg8 (by
    cases e : uq.ownBlock with
    | none => exact .inl rfl
    | some g =>
      right
      intro e2
      have h1 := (own_block h.oo e).1
      cases e3 : vr.ownBlock with
      | none => rw [e3] at e2; cases e2
      | some g' =>
        rw [e3] at e2
        obtain rfl := Option.some.inj e2
        obtain ⟨_, cur, h4⟩ := own_block hor e3
        have := (Array.getElem?_eq_some_iff.1 h4).1
        omega)
  refine ⟨(hg8.block g5 (Array.getElem?_eq_some_iff.1 h.box).1 (hvr _ h5)).trans h.box, ?_, hcell _ _ c0, hcell _ _ c1, hcell _ _ c2, ?_, ?_, ?_, ?_⟩
  · exact (hg8.block g6 (by omega) (hvr _ h6)).trans ((h.fr g6 (by omega) (Ne.symm hne) (.inl h6)).trans k6)
  · have h1 := Sl.of_owns hq
    rw [take_all (Nat.le_refl _)] at h1
    rw [List.length_append, notL_len]
    exact h1
  · rw [notO_len]; exact Sl.of_owns hu
  · rw [List.length_reverse]; exact Sl.of_owns ho8
  · exact (hb7.trans (h.bel (A := w.heap.size) (by omega) (by omega) hB)).trans ⟨hg8.os, hg8.tape, hg8.output, hg8.size, fun k hk => hg8.block k (by omega) (hvr k (by omega))⟩
end
end Go.Proofs.YtgfeknjhkciooaaDoor
