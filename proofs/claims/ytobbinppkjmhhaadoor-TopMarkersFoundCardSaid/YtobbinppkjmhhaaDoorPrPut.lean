/-
  The reducer of program.Reduce in memory: its code, its map; put, not, and, xor.
  The code is well formed, and not longer than a million.
-/
import Derived.Test.YtobbinppkjmhhaaDoorInsMap
import Derived.Test.YtobbinppkjmhhaaDoorPrRun
import Derived.Deep.OwnRows
import Derived.Sort.OwnSorted
import Derived.Deep.QuietTactic
import Derived.Deep.RegionLaw
import Derived.RegionTactic
import Derived.ChangeAlike
namespace Go.Proofs.YtobbinppkjmhhaaDoor
open Go.RowKit Go.Deep
set_option linter.unusedVariables false

theorem own_block {w : World} {base : Nat} {e : TypeId} {sz : Nat} {v : Value} {n : Nat} {xs : List Value} (h : w.ownsRow base e sz v n xs) {g : Nat} (hg : v.ownBlock = some g) : base ≤ g ∧ ∃ cur, w.heap[g]? = some (.cells cur e (0, 0)) := by
  rcases h.2 with ⟨rfl, _⟩ | ⟨g', cap, cur, rfl, h1, h2, _⟩
  · cases hg
  · simp only [Value.ownBlock, Option.some.injEq] at hg
    subst hg
    exact ⟨h1, cur, h2⟩
theorem own_apart {w : World} {b1 b2 : Nat} {e1 e2 : TypeId} {s1 s2 : Nat} {v1 v2 : Value} {n1 n2 : Nat} {x1 x2 : List Value} (h1 : w.ownsRow b1 e1 s1 v1 n1 x1) (h2 : w.ownsRow b2 e2 s2 v2 n2 x2) (hne : e1 ≠ e2) : v1.ownBlock = none ∨ v1.ownBlock ≠ v2.ownBlock := by
  cases h : v1.ownBlock with
  | none => exact .inl rfl
  | some g =>
    right
    intro e
    obtain ⟨_, c1, hc1⟩ := own_block h1 h
    obtain ⟨_, c2, hc2⟩ := own_block h2 e.symm
    rw [hc1] at hc2
    simp only [Option.some.injEq, Obj.cells.injEq] at hc2
    exact hne hc2.2.1
theorem row_ne_low53 {w : World} {base : Nat} {e : TypeId} {sz : Nat} {v : Value} {n : Nat} {xs : List Value} (h : w.ownsRow base e sz v n xs) {b : Nat} (hb : b < base) : some b ≠ v.ownBlock := fun e => by have := (own_block h e.symm).1; omega
theorem row_grown {w w' : World} {b : Nat} {t : TypeId} {n : Nat} {f : Nat → Value} {row : Option Nat} (h : w.rowIs b t n f) (hg : w.grownBy w' row) (hne : some b ≠ row) : w'.rowIs b t n f := h.of_block (hg.block b h.lt hne)
theorem row_below {w w' : World} {b : Nat} {t : TypeId} {n : Nat} {f : Nat → Value} (h : w.rowIs b t n f) (hb : Below w.heap.size w w') : w'.rowIs b t n f := h.of_block (hb.block b h.lt)

theorem Tryd.infoInstr : (Tryd.prog.info? 134).map (fun i => (i.zero, i.size, i.bytes)) = some (some (.agg #[.int .i64 0, .int .i64 0, .int .i64 0]), 3, 24) := by kernel_rfl
def rfun (N : Nat) (vc : Value) (MB : Nat) : Nat → Value
  | 0 => .int .i64 N
  | 1 => vc
  | _ => .map (some MB)
/-- Which bit an instruction has. -/
def kn (N : Nat) (c : List Ins) (x : Ins) : Option Int := if x ∈ c then some (putV N c x) else none
/-- What a step of the reducer leaves alone: all but its own block, its map, and rows of instructions from B on. -/
structure Fr (B RB MB : Nat) (w w' : World) : Prop where
  os : w'.os = w.os
  tape : w'.tape = w.tape
  output : w'.output = w.output
  size : w.heap.size ≤ w'.heap.size
  block : ∀ k, k < w.heap.size → k ≠ RB → k ≠ MB → (k < B ∨ ∀ cs fz, w.heap[k]? ≠ some (.cells cs 134 fz)) → w'.heap[k]? = w.heap[k]?
theorem Fr.refl (B RB MB : Nat) (w : World) : Fr B RB MB w w := ⟨rfl, rfl, rfl, Nat.le_refl _, fun _ _ _ _ _ => rfl⟩
theorem Fr.trans {B RB MB : Nat} {w1 w2 w3 : World} (h : Fr B RB MB w1 w2) (k : Fr B RB MB w2 w3) : Fr B RB MB w1 w3 :=
  ⟨k.os.trans h.os, k.tape.trans h.tape, k.output.trans h.output, Nat.le_trans h.size k.size, fun j hj h1 h2 h3 => by
    have e := h.block j hj h1 h2 h3
    rw [k.block j (Nat.lt_of_lt_of_le hj h.size) h1 h2 (by rw [e]; exact h3), e]⟩
theorem Fr.of {B RB MB : Nat} {w w' : World} (h : Below w.heap.size w w') : Fr B RB MB w w' := ⟨h.os, h.tape, h.output, h.size, fun k hk _ _ _ => h.block k hk⟩
theorem Fr.own {B RB MB base : Nat} {w w' : World} {e : TypeId} {sz : Nat} {v : Value} {n : Nat} {xs : List Value} (h : Fr B RB MB w w') (ho : w.ownsRow base e sz v n xs) (he : e ≠ 134) (h1 : RB < base) (h2 : MB < base) : w'.ownsRow base e sz v n xs := by
  refine ⟨ho.1, ?_⟩
  rcases ho.2 with h3 | ⟨g, cap, cur, hv, hg, hh, r⟩
  · exact .inl h3
  · refine .inr ⟨g, cap, cur, hv, hg, (h.block g (Array.getElem?_eq_some_iff.1 hh).1 (by omega) (by omega) (.inr fun cs fz e => ?_)).trans hh, r⟩
    rw [hh] at e
    simp only [Option.some.injEq, Obj.cells.injEq] at e
    exact he e.2.1
/-- Cells below B that are not the reducer's. -/
theorem Fr.cell {B RB MB : Nat} {w w' : World} (h : Fr B RB MB w w') {b j : Nat} {v : Value} (hc : w.cell? ⟨b, j, none⟩ = some v) (h0 : b < B) (h1 : b ≠ RB) (h2 : b ≠ MB) : w'.cell? ⟨b, j, none⟩ = some v := by
  have := h.block b (World.block_lt_of_cell? w _ hc) h1 h2 (.inl h0)
  unfold World.cell? at hc ⊢
  simp only at hc ⊢
  rw [this]; exact hc
theorem KM.congr {w : World} {b n : Nat} {f g : Ins → Option Int} (h : KM w b n f) (he : ∀ s, f s = g s) : KM w b n g := by
  obtain ⟨D, hD, hf⟩ := h
  exact ⟨D, hD, fun s zd hs => by rw [hf s zd hs, he]⟩
theorem kn_snoc {N : Nat} {c : List Ins} {x : Ins} (h : x ∉ c) (y : Ins) : (if y = x then some ((N + c.length : Nat) : Int) else kn N c y) = kn N (c ++ [x]) y := by
  unfold kn putV
  by_cases e : y = x
  · subst e
    rw [if_pos rfl, if_pos (by simp), List.idxOf_append, if_neg h]
    simp
  · rw [if_neg e]
    by_cases hy : y ∈ c
    · rw [if_pos hy, if_pos (by simp [hy]), List.idxOf_append, if_pos hy]
    · rw [if_neg hy, if_neg (by simp [hy, e])]
theorem boxI' {w w0 : World} {a b c : Int} (h : w.alloc (.cells #[.int .i64 a, .int .i64 b, .int .i64 c] 134) = w0) :
    Below w.heap.size w w0 ∧ w0.cell? ⟨w.heap.size, 0, none⟩ = some (.int .i64 a) ∧ w0.cell? ⟨w.heap.size, 1, none⟩ = some (.int .i64 b) ∧ w0.cell? ⟨w.heap.size, 2, none⟩ = some (.int .i64 c) := by
  subst h
  exact ⟨bel_alloc _ _, by simp, by simp, by simp⟩
theorem kn_yes {N : Nat} {c : List Ins} {x : Ins} (h : x ∈ c) : kn N c x = some (putV N c x) := by rw [kn, if_pos h]
theorem kn_no {N : Nat} {c : List Ins} {x : Ins} (h : x ∉ c) : kn N c x = none := by rw [kn, if_neg h]

theorem bel_ad {w : World} {o : Obj} : Below w.heap.size w (w.alloc o).drew := below_now ⟨rfl, rfl, rfl⟩ (.inr ⟨_, rfl⟩)
theorem bel_da {w : World} {o : Obj} : Below w.heap.size w (w.drew.alloc o) := below_now ⟨rfl, rfl, rfl⟩ (.inr ⟨_, rfl⟩)
end Go.Proofs.YtobbinppkjmhhaaDoor
