/-
  The reference's Reduce, cut: what its parts read, and the memory of what is needed.
  No condition.
-/
import Derived.Test.YtgfeknjhkciooaaDoorPrRedD
import Derived.Test.YtgfeknjhkciooaaDoorRfBoth
import Derived.Test.YtgfeknjhkciooaaDoorPrRef
namespace Go.Proofs.YtgfeknjhkciooaaDoor
open Go.RowKit Go.Deep
set_option linter.unusedVariables false

noncomputable def rrBody : Code := (Tryd.f15.body).getD .skip
/-- What the later parts read. -/
structure RE (g0 gR N m : Nat) (C : List Ins) (o vs : List Int) (av ao aC : Option Addr) (cv co cC : Nat) (X : World) : Prop where
  c0 : X.cell? ⟨g0, 0, none⟩ = some (.int .i64 N)
  c2 : X.cell? ⟨g0, 2, none⟩ = some (.slice ao o.length co)
  g1 : X.cell? ⟨gR, 1, none⟩ = some (.slice aC C.length cC)
  oc : X.ownsRow 0 41 3 (.slice aC C.length cC) C.length (icells C)
  ov : X.ownsRow 0 3 1 (.slice av (N + m) cv) (N + m) (ints vs)
  so : Sl 1 X (.slice ao o.length co) o.length (ints o)
  r : X.heap[g0 + 1]? = some (.cells #[.int .i64 0, .slice none 0 0, .slice none 0 0] 25 (0, 0))
theorem RE.below {g0 gR N m : Nat} {C : List Ins} {o vs : List Int} {av ao aC : Option Addr} {cv co cC : Nat} {X Y : World} (h : RE g0 gR N m C o vs av ao aC cv co cC X) (hb : Below X.heap.size X Y) : RE g0 gR N m C o vs av ao aC cv co cC Y :=
  ⟨keeps hb h.c0, keeps hb h.c2, keeps hb h.g1, own_below h.oc hb, own_below h.ov hb, h.so.below hb, (hb.block _ (Array.getElem?_eq_some_iff.1 h.r).1).trans h.r⟩
/-- The row of what is needed. -/
structure NR (w8 : World) (NB n : Nat) (nd : Nat → Bool) (wr : World) : Prop where
  bel : Below w8.heap.size w8 wr
  row : wr.rowIs NB 4 n (bolF nd)
  ln : w8.heap.size ≤ NB
section
variable {w8 wr w' : World} {NB n : Nat} {nd nd' : Nat → Bool}
theorem NR.keep (h : NR w8 NB n nd wr) (hb : Below wr.heap.size wr w') : NR w8 NB n nd w' := ⟨h.bel.trans (hb.mono h.bel.size), row_below h.row hb, h.ln⟩
theorem NR.congr (h : NR w8 NB n nd wr) (h1 : ∀ j, j < n → nd j = nd' j) : NR w8 NB n nd' wr :=
  ⟨h.bel, h.row.congr fun i hi => by show Value.bool (nd i) = _; rw [h1 i hi]; rfl, h.ln⟩
theorem NR.set (h : NR w8 NB n nd wr) (j : Nat) : NR w8 NB n (fun i => nd i || decide (i = j)) (wr.setCell ⟨NB, j, none⟩ (.bool true)) := by
  refine ⟨h.bel.setCell h.ln _, (h.row.set j (.bool true)).congr fun i hi => ?_, h.ln⟩
  by_cases e : i = j
  · subst e; simp [bolF]
  · simp [bolF, e]
end
theorem OkI.rng {N i m : Nat} {C : List Ins} {op a b : Int} (h : OkI N C i ⟨op, a, b⟩) (hi : i < m) : 0 ≤ a ∧ a < (N : Int) + (m : Int) ∧ 0 ≤ b ∧ b < (N : Int) + (m : Int) := by
  rcases h with ⟨h1, h2, h3, h4, _⟩ | ⟨h1, h2, h3, h4⟩
  · have h2' : 0 ≤ a := h2
    have h3' : a < ((N + i : Nat) : Int) := h3
    have h4' : b = 0 := h4
    omega
  · have h2' : 0 ≤ a := h2
    have h3' : a < b := h3
    have h4' : b < ((N + i : Nat) : Int) := h4
    omega
theorem OkI.two {N i : Nat} {C : List Ins} {op a b : Int} (h : OkI N C i ⟨op, a, b⟩) : (op = 5 ∧ b = 0 ∧ usedN op = 1 ∧ twoB op = false) ∨ (usedN op = 2 ∧ twoB op = true) := by
  rcases h with ⟨h1, _, _, h4, _⟩ | ⟨h1, _⟩
  · have h1' : op = 5 := h1
    subst h1'
    exact .inl ⟨rfl, h4, rfl, rfl⟩
  · have h1' : op = 3 ∨ op = 4 := h1
    rcases h1' with rfl | rfl <;> exact .inr ⟨rfl, rfl⟩
theorem hasV_neg {vs o : List Int} {k v c : Int} (hv : vs.getD k.toNat 0 = v) : hasV vs (o ++ [k]) c = (hasV vs o c || decide (v = c)) := by rw [hasV_snoc, hv]
end Go.Proofs.YtgfeknjhkciooaaDoor
