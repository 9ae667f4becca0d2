/-
  Maps from numbers to bools that the call itself has made.
  No condition: these are general lemmas.
-/
import Derived.Test.YtjcdddccnfiemaaDoorAid
import Derived.Maps.Own
import Derived.Maps.OwnSet
import Derived.Maps.Views
import Derived.DeepKeys4
import Derived.MapViews
namespace Go.Proofs.YtjcdddccnfiemaaDoor
open Go.RowKit
set_option linter.unusedVariables false

def Ok64 (a : Int) : Prop := -9223372036854775808 ≤ a ∧ a ≤ 9223372036854775807
theorem wf64 {a : Int} (h : Ok64 a) : (Lit.int .i64 a).wf = true := WalkArith.wf_i64 (by unfold Ok64 at h; omega)
theorem Tryd.keyInt : Maps.Keyed Tryd.prog 3 := Maps.int_keyed Tryd.underlying3
theorem keyZ {s : Int} (h : Ok64 s) : keyOf Tryd.prog 3 (.int .i64 s) = some (.int .i64 s) := Maps.keyOf_int_mk Tryd.underlying3 (wf64 h)
/-- The block b is a map of at most n entries; it says f of each number. -/
def BZ (w : World) (b n : Nat) (f : Int → Bool) : Prop :=
  ∃ D : DataW Unit, w.ownsMap Tryd.prog 3 (plainElem Tryd.prog 4) b n D ∧ ∀ s : Int, D.atKey (.int .i64 s) (.lit (.bool false)) = .lit (.bool (f s))
theorem BZ.made (w : World) : BZ (w.alloc (.map #[] 0)) w.heap.size 0 (fun _ => false) := ⟨_, World.ownsMap_made w _ _ _, fun s => rfl⟩
theorem BZ.same {w w' : World} {b n : Nat} {f : Int → Bool} (h : BZ w b n f) (hh : w'.heap[b]? = w.heap[b]?) : BZ w' b n f := by
  obtain ⟨D, ⟨es, clock, hb, hF, hs, hD⟩, hf⟩ := h
  exact ⟨D, ⟨es, clock, hh.trans hb, hF, hs, hD⟩, hf⟩
theorem BZ.lt {w : World} {b n : Nat} {f : Int → Bool} (h : BZ w b n f) : b < w.heap.size := by
  obtain ⟨D, hD, _⟩ := h
  exact hD.lt
theorem BZ.below {w w' : World} {b n : Nat} {f : Int → Bool} (h : BZ w b n f) (hb : Below w.heap.size w w') : BZ w' b n f := h.same (hb.block b h.lt)
theorem BZ.congr {w : World} {b n : Nat} {f g : Int → Bool} (h : BZ w b n f) (he : ∀ s, f s = g s) : BZ w b n g := by
  obtain ⟨D, hD, hf⟩ := h
  exact ⟨D, hD, fun s => by rw [hf, he]⟩
theorem BZ.mono {w : World} {b n m : Nat} {f : Int → Bool} (h : BZ w b n f) (hm : n ≤ m) : BZ w b m f := by
  obtain ⟨D, ⟨es, clock, hb, hF, hs, hD⟩, hf⟩ := h
  exact ⟨D, ⟨es, clock, hb, hF, by omega, hD⟩, hf⟩
theorem BZ.look {w : World} {b n : Nat} {f : Int → Bool} (h : BZ w b n f) (s : Int) (hs : Ok64 s) : (Instr.lookup 101 (.map (some b)) (.int .i64 s) false).run Tryd.prog w = .ok (.bool (f s)) w := by
  obtain ⟨D, hD, hf⟩ := h
  obtain ⟨v, ps, hrun, hv⟩ := hD.lookup Tryd.keyInt Tryd.underlying101 (by exact Tryd.zeroValue4 w) (plainElem_bool Tryd.underlying4 false) (keyZ hs)
  rw [hf s] at hv
  have : v = .bool (f s) := by
    revert hv
    unfold plainElem
    rw [Tryd.underlying4]
    cases v <;> simp +contextual
  rw [hrun, this]
theorem BZ.store {w : World} {b n : Nat} {f : Int → Bool} (h : BZ w b n f) (hn : n < 1000000) (s : Int) (hs : Ok64 s) :
    ∃ w', (Instr.mapUpdate 101 (.map (some b)) (.int .i64 s) (.bool true)).run Tryd.prog w = .ok () w' ∧ BZ w' b (n + 1) (fun t => decide (t = s) || f t) ∧ w.grownBy w' (some b) := by
  obtain ⟨D, hD, hf⟩ := h
  obtain ⟨w', hrun, hown, hg⟩ := hD.update Tryd.keyInt Tryd.underlying101 (by unfold maxLen; omega) (keyZ hs) (plainElem_bool Tryd.underlying4 true)
  refine ⟨w', hrun, ⟨_, hown, fun t => ?_⟩, hg⟩
  by_cases ht : t = s
  · subst ht
    rw [Maps.atKey_put_same hD.isMap (show WideAt.IsKeyLit (.int .i64 t) from trivial)]; simp
  · rw [Maps.atKey_put_other (by simpa using ht), hf t]; simp [ht]
end Go.Proofs.YtjcdddccnfiemaaDoor
