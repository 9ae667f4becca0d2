/-
  Maps from numbers to bools, and to numbers, that the call itself has made.
  No condition: these are general lemmas.
-/
import Derived.Test.YtmabciajhmjmeaaGreatDoorInsMap
namespace Go.Proofs.YtmabciajhmjmeaaGreatDoor
open Go.RowKit
set_option linter.unusedVariables false

theorem Tryz.keyInt : Maps.Keyed Tryz.prog 3 := Maps.int_keyed Tryz.underlying3
theorem keyZ {s : Int} (h : Ok64 s) : keyOf Tryz.prog 3 (.int .i64 s) = some (.int .i64 s) := Maps.keyOf_int_mk Tryz.underlying3 (wf64 h)
/-- The block b is a map of at most n entries; it says f of each number. -/
def BZ (w : World) (b n : Nat) (f : Int → Bool) : Prop :=
  ∃ D : DataW Unit, w.ownsMap Tryz.prog 3 (plainElem Tryz.prog 4) b n D ∧ ∀ s : Int, D.atKey (.int .i64 s) (.lit (.bool false)) = .lit (.bool (f s))
theorem BZ.made (w : World) : BZ (w.alloc (.map #[] 0)) w.heap.size 0 (fun _ => false) := ⟨_, World.ownsMap_made w _ _ _, fun s => rfl⟩
theorem BZ.same {w w' : World} {b n : Nat} {f : Int → Bool} (h : BZ w b n f) (hh : w'.heap[b]? = w.heap[b]?) : BZ w' b n f := by
  obtain ⟨D, ⟨es, clock, hb, hF, hs, hD⟩, hf⟩ := h
  exact ⟨D, ⟨es, clock, hh.trans hb, hF, hs, hD⟩, hf⟩
theorem BZ.lt {w : World} {b n : Nat} {f : Int → Bool} (h : BZ w b n f) : b < w.heap.size := by
  obtain ⟨D, hD, _⟩ := h
  exact hD.lt
theorem BZ.below {w w' : World} {b n : Nat} {f : Int → Bool} (h : BZ w b n f) (hb : Below w.heap.size w w') : BZ w' b n f := h.same (hb.block b h.lt)
theorem BZ.congr {w : World} {b n : Nat} {f g : Int → Bool} (h : BZ w b n f) (he : ∀ s, f s = g s) : BZ w b n g := by
  obtain ⟨D, hD, hf⟩ := h
  exact ⟨D, hD, fun s => by rw [hf, he]⟩
theorem BZ.mono {w : World} {b n m : Nat} {f : Int → Bool} (h : BZ w b n f) (hm : n ≤ m) : BZ w b m f := by
  obtain ⟨D, ⟨es, clock, hb, hF, hs, hD⟩, hf⟩ := h
  exact ⟨D, ⟨es, clock, hb, hF, by omega, hD⟩, hf⟩
theorem BZ.look {w : World} {b n : Nat} {f : Int → Bool} (h : BZ w b n f) (s : Int) (hs : Ok64 s) : (Instr.lookup 79 (.map (some b)) (.int .i64 s) false).run Tryz.prog w = .ok (.bool (f s)) w := by
  obtain ⟨D, hD, hf⟩ := h
  obtain ⟨v, ps, hrun, hv⟩ := hD.lookup Tryz.keyInt Tryz.underlying79 (by exact Tryz.zeroValue4 w) (plainElem_bool Tryz.underlying4 false) (keyZ hs)
  rw [hf s] at hv
  have : v = .bool (f s) := by
    revert hv
    unfold plainElem
    rw [Tryz.underlying4]
    cases v <;> simp +contextual
  rw [hrun, this]
theorem BZ.store {w : World} {b n : Nat} {f : Int → Bool} (h : BZ w b n f) (hn : n < 1000000) (s : Int) (hs : Ok64 s) :
    ∃ w', (Instr.mapUpdate 79 (.map (some b)) (.int .i64 s) (.bool true)).run Tryz.prog w = .ok () w' ∧ BZ w' b (n + 1) (fun t => decide (t = s) || f t) ∧ w.grownBy w' (some b) := by
  obtain ⟨D, hD, hf⟩ := h
  obtain ⟨w', hrun, hown, hg⟩ := hD.update Tryz.keyInt Tryz.underlying79 (by unfold maxLen; omega) (keyZ hs) (plainElem_bool Tryz.underlying4 true)
  refine ⟨w', hrun, ⟨_, hown, fun t => ?_⟩, hg⟩
  by_cases ht : t = s
  · subst ht
    rw [Maps.atKey_put_same hD.isMap (show WideAt.IsKeyLit (.int .i64 t) from trivial)]; simp
  · rw [Maps.atKey_put_other (by simpa using ht), hf t]; simp [ht]
/-- .. to numbers, 0 where there is none. -/
def IZ (w : World) (b n : Nat) (f : Int → Int) : Prop :=
  ∃ D : DataW Unit, w.ownsMap Tryz.prog 3 (plainElem Tryz.prog 3) b n D ∧ ∀ s : Int, D.atKey (.int .i64 s) (.lit (.int .i64 0)) = .lit (.int .i64 (f s))
theorem IZ.made (w : World) : IZ (w.alloc (.map #[] 0)) w.heap.size 0 (fun _ => 0) := ⟨_, World.ownsMap_made w _ _ _, fun s => rfl⟩
theorem IZ.same {w w' : World} {b n : Nat} {f : Int → Int} (h : IZ w b n f) (hh : w'.heap[b]? = w.heap[b]?) : IZ w' b n f := by
  obtain ⟨D, ⟨es, clock, hb, hF, hs, hD⟩, hf⟩ := h
  exact ⟨D, ⟨es, clock, hh.trans hb, hF, hs, hD⟩, hf⟩
theorem IZ.lt {w : World} {b n : Nat} {f : Int → Int} (h : IZ w b n f) : b < w.heap.size := by
  obtain ⟨D, hD, _⟩ := h
  exact hD.lt
theorem IZ.below {w w' : World} {b n : Nat} {f : Int → Int} (h : IZ w b n f) (hb : Below w.heap.size w w') : IZ w' b n f := h.same (hb.block b h.lt)
theorem IZ.congr {w : World} {b n : Nat} {f g : Int → Int} (h : IZ w b n f) (he : ∀ s, f s = g s) : IZ w b n g := by
  obtain ⟨D, hD, hf⟩ := h
  exact ⟨D, hD, fun s => by rw [hf, he]⟩
theorem IZ.mono {w : World} {b n m : Nat} {f : Int → Int} (h : IZ w b n f) (hm : n ≤ m) : IZ w b m f := by
  obtain ⟨D, ⟨es, clock, hb, hF, hs, hD⟩, hf⟩ := h
  exact ⟨D, ⟨es, clock, hb, hF, by omega, hD⟩, hf⟩
theorem IZ.look {w : World} {b n : Nat} {f : Int → Int} (h : IZ w b n f) (s : Int) (hs : Ok64 s) : (Instr.lookup 80 (.map (some b)) (.int .i64 s) false).run Tryz.prog w = .ok (.int .i64 (f s)) w := by
  obtain ⟨D, hD, hf⟩ := h
  obtain ⟨v, ps, hrun, hv⟩ := hD.lookup Tryz.keyInt Tryz.underlying80 (by exact Tryz.zeroValue3 w) (plainElem_int Tryz.underlying3 (by decide)) (keyZ hs)
  rw [hf s] at hv
  obtain ⟨a, h1, h2, h3⟩ := plainElem_int_inv Tryz.underlying3 hv
  simp only [Prod.mk.injEq, DataW.lit.injEq, Lit.int.injEq, true_and] at h2
  rw [hrun, h1, h2.1]
theorem IZ.store {w : World} {b n : Nat} {f : Int → Int} (h : IZ w b n f) (hn : n < 1000000) (s c : Int) (hs : Ok64 s) (hc : Ok64 c) :
    ∃ w', (Instr.mapUpdate 80 (.map (some b)) (.int .i64 s) (.int .i64 c)).run Tryz.prog w = .ok () w' ∧ IZ w' b (n + 1) (fun t => if t = s then c else f t) ∧ w.grownBy w' (some b) := by
  obtain ⟨D, hD, hf⟩ := h
  obtain ⟨w', hrun, hown, hg⟩ := hD.update Tryz.keyInt Tryz.underlying80 (by unfold maxLen; omega) (keyZ hs) (plainElem_int Tryz.underlying3 (wf64 hc))
  refine ⟨w', hrun, ⟨_, hown, fun t => ?_⟩, hg⟩
  by_cases ht : t = s
  · subst ht
    rw [Maps.atKey_put_same hD.isMap (show WideAt.IsKeyLit (.int .i64 t) from trivial)]; simp
  · rw [Maps.atKey_put_other (by simpa using ht), hf t]; simp [ht]
end Go.Proofs.YtmabciajhmjmeaaGreatDoor
