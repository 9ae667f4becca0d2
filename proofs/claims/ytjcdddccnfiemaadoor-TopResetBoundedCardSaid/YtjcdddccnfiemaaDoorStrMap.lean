/-
  A map from strings to numbers that the call itself has made: what it says of each string.
  No condition: these are general lemmas.
-/
import Derived.Test.YtjcdddccnfiemaaDoorAid
import Derived.Maps.Own
import Derived.StringKeys
namespace Go.Proofs.YtjcdddccnfiemaaDoor
open Go.RowKit
set_option linter.unusedVariables false

theorem Tryd.keyString : Maps.Keyed Tryd.prog 9 := Maps.string_keyed Tryd.underlying9
/-- The block b is a map of at most n entries; it says f of each string. -/
def SM (w : World) (b n : Nat) (f : ByteArray → Option Int) : Prop :=
  ∃ D : DataW Unit, w.ownsMap Tryd.prog 9 (plainElem Tryd.prog 3) b n D ∧ ∀ (s : ByteArray) (zd : DataW Unit), D.atKey (.string s.data.toList) zd = match f s with | none => zd | some c => .lit (.int .i64 c)
theorem SM.made (w : World) : SM (w.alloc (.map #[] 0)) w.heap.size 0 (fun _ => none) := ⟨_, World.ownsMap_made w _ _ _, fun s zd => rfl⟩
theorem SM.same {w w' : World} {b n : Nat} {f : ByteArray → Option Int} (h : SM w b n f) (hh : w'.heap[b]? = w.heap[b]?) : SM w' b n f := by
  obtain ⟨D, ⟨es, clock, hb, hF, hs, hD⟩, hf⟩ := h
  exact ⟨D, ⟨es, clock, hh.trans hb, hF, hs, hD⟩, hf⟩
theorem SM.lt {w : World} {b n : Nat} {f : ByteArray → Option Int} (h : SM w b n f) : b < w.heap.size := by
  obtain ⟨D, hD, _⟩ := h
  exact hD.lt
theorem SM.below {w w' : World} {b n : Nat} {f : ByteArray → Option Int} (h : SM w b n f) {B : Nat} (hb : Below B w w') (hB : b < B) : SM w' b n f := h.same (hb.block b hB)
theorem SM.congr {w : World} {b n : Nat} {f g : ByteArray → Option Int} (h : SM w b n f) (he : ∀ s, f s = g s) : SM w b n g := by
  obtain ⟨D, hD, hf⟩ := h
  exact ⟨D, hD, fun s zd => by rw [hf, he]⟩
/-- What a look-up with 'ok' yields. -/
def lookV (o : Option Int) : Value := match o with | none => .tuple #[.int .i64 0, .bool false] | some c => .tuple #[.int .i64 c, .bool true]
theorem SM.look {w : World} {b n : Nat} {f : ByteArray → Option Int} (h : SM w b n f) (s : ByteArray) (hs : s.size ≤ maxLen) :
    (Instr.lookup 92 (.map (some b)) (.string s) true).run Tryd.prog w = .ok (lookV (f s)) w := by
  obtain ⟨D, ⟨es, clock, hb, hF, hsz, hD⟩, hf⟩ := h
  rcases Maps.fit_look true Tryd.keyString Tryd.underlying92 (Tryd.zeroValue3 w) hb hF (WideMaps.keyOf_string_mk Tryd.underlying9 hs) with ⟨hrun, _, hat⟩ | ⟨e0, y, _, _, hrun, hRv, hat, _⟩
  · have hn : f s = none := by
      cases hc : f s with
      | none => rfl
      | some c =>
        have h1 := hf s .nil
        rw [hc, hD, hat .nil] at h1
        cases h1
    rw [hn]
    exact hrun
  · obtain ⟨c, hv, hy, _⟩ := plainElem_int_inv Tryd.underlying3 hRv
    have hn : f s = some c := by
      cases hc : f s with
      | none =>
        have h1 := hf s .nil
        rw [hc, hD, hat .nil, hy] at h1
        cases h1
      | some c' =>
        have h1 := hf s .nil
        rw [hc, hD, hat .nil, hy] at h1
        simp only [DataW.lit.injEq, Lit.int.injEq, true_and] at h1
        rw [h1]
    rw [hn]
    rw [hv] at hrun
    exact hrun
theorem SM.store {w : World} {b n : Nat} {f : ByteArray → Option Int} (h : SM w b n f) (hn : n < 100000) (s : ByteArray) (hs : s.size ≤ maxLen) (c : Int) (hc : (Lit.int .i64 c).wf = true) :
    ∃ w', (Instr.mapUpdate 92 (.map (some b)) (.string s) (.int .i64 c)).run Tryd.prog w = .ok () w' ∧ SM w' b (n + 1) (fun t => if t = s then some c else f t) ∧ w.grownBy w' (some b) := by
  obtain ⟨D, hD, hf⟩ := h
  obtain ⟨w', hrun, hown, hg⟩ := hD.update Tryd.keyString Tryd.underlying92 (by unfold maxLen; omega) (WideMaps.keyOf_string_mk Tryd.underlying9 hs) (plainElem_int Tryd.underlying3 hc)
  refine ⟨w', hrun, ⟨_, hown, fun t zd => ?_⟩, hg⟩
  by_cases ht : t = s
  · subst ht
    rw [Maps.atKey_put_same hD.isMap (show WideAt.IsKeyLit (.string t.data.toList) from trivial)]; simp
  · have hne : (Lit.string t.data.toList) ≠ .string s.data.toList := by
      intro e
      simp only [Lit.string.injEq] at e
      exact ht (by cases t; cases s; simp only [ByteArray.mk.injEq]; exact Array.toList_inj.1 e)
    rw [Maps.atKey_put_other hne, hf t]; simp [ht]
end Go.Proofs.YtjcdddccnfiemaaDoor
