/-
  A row of bytes that the call owns and that may bear a conversion's mark behind its last cell: '[]byte(s)', appended to.
  No condition: these are general lemmas.
-/
import Derived.Test.YtgfeknjhkciooaaDoorAidP
import Derived.ArgAppend
import Derived.Deep.Onto
import Derived.Lib.ConvBytes
namespace Go.Proofs.YtgfeknjhkciooaaDoor
open Go.RowKit
set_option linter.unusedVariables false

def RowM (w : World) (base : Nat) (v : Value) (n : Nat) (xs : List Value) : Prop :=
  xs.length = n ∧ ∃ g cap, v = .slice (some ⟨g, 0, none⟩) n cap ∧ base ≤ g ∧ g < w.heap.size ∧ n ≤ cap ∧ cap ≤ maxLen ∧ (∀ j u, xs[j]? = some u → w.cell? ⟨g, j, none⟩ = some u) ∧ (∀ j, j < cap → (w.cell? ⟨g, j, none⟩).isSome = true ∧ w.frozen? ⟨g, j, none⟩ = false)
theorem RowM.below {w w' : World} {base n : Nat} {v : Value} {xs : List Value} (h : RowM w base v n xs) (hb : Below w.heap.size w w') : RowM w' base v n xs := by
  obtain ⟨h1, g, cap, h2, h3, h4, h5, h6, h7, h8⟩ := h
  refine ⟨h1, g, cap, h2, h3, Nat.lt_of_lt_of_le h4 hb.size, h5, h6, fun j u hj => keeps hb (h7 j u hj), fun j hj => ?_⟩
  rw [hb.cell (p := ⟨g, j, none⟩) h4, hb.frozen (p := ⟨g, j, none⟩) h4]
  exact h8 j hj
theorem RowM.slice {w : World} {base n : Nat} {v : Value} {xs : List Value} (h : RowM w base v n xs) : ∃ g cap, v = .slice (some ⟨g, 0, none⟩) n cap ∧ n ≤ cap ∧ cap ≤ 9223372036854775807 ∧ base ≤ g ∧ g < w.heap.size ∧ ∀ j u, xs[j]? = some u → w.cell? ⟨g, j, none⟩ = some u := by
  obtain ⟨h1, g, cap, h2, h3, h4, h5, h6, h7, h8⟩ := h
  exact ⟨g, cap, h2, h5, by simpa [maxLen] using h6, h3, h4, h7⟩
theorem RowM.of_own {w : World} {base b n : Nat} {v : Value} {xs : List Value} (h : w.ownsRow b 5 1 v n xs) (hb : base ≤ b) (hn : 0 < n) : RowM w base v n xs := by
  rcases h.2 with ⟨_, h0⟩ | ⟨g, cap, cur, hv, hg, hh, hn', hc, hs, ht⟩
  · omega
  · refine ⟨by have := h.1; omega, g, cap, hv, by omega, (Array.getElem?_eq_some_iff.1 hh).1, hn', hc, fun j u hj => ?_, fun j hj => ?_⟩
    · subst hv
      have h2 := h.cellAt j (by have := lt_of_some hj; have := h.1; omega)
      rw [h2]; exact hj
    · rw [cell_of_row _ g j cur _ _ hh]
      exact ⟨by simp; omega, by simp [World.frozen?, hh]⟩
/-- '[]byte(s)' lays such a row. -/
theorem rowM_made {w wb : World} {s : ByteArray} (h : Lib.bytesWorld w 5 s = wb) (hs : s.size ≤ maxLen) : Below w.heap.size w wb ∧ RowM wb w.heap.size (.slice (some ⟨w.heap.size, 0, none⟩) s.size (grownCap w s.size 0 5)) s.size (s.data.toList.map fun b => Value.int .u8 b.toNat) := by
  subst h
  have hge := grownCap_ge w s.size 0 5
  refine ⟨⟨rfl, rfl, rfl, by rw [Lib.bytesWorld_size]; omega, fun k hk => Lib.bytesWorld_at_old w _ s k hk⟩, by simp, _, _, rfl, Nat.le_refl _, by rw [Lib.bytesWorld_size]; omega, hge, grownCap_le_maxLen _ _ _ _ hs, fun j u hj => ?_, fun j hj => ?_⟩
  · have hl := lt_of_some hj
    rw [List.length_map] at hl
    rw [Lib.bytesWorld_cell w _ s j (by simpa using hl)]
    rw [List.getElem?_map, List.getElem?_eq_getElem hl] at hj
    rw [List.getD_eq_getElem?_getD, List.getElem?_eq_getElem hl]
    exact hj
  · have hsz : (Lib.bytesCells w 5 s).size = grownCap w s.size 0 5 := by
      unfold Lib.bytesCells
      simp
      have : s.data.size = s.size := rfl
      omega
    rw [cell_of_row _ _ j _ _ _ (Lib.bytesWorld_at_new w 5 s)]
    refine ⟨by simp [hsz, hj], ?_⟩
    simp only [World.frozen?, Lib.bytesWorld_at_new]
    simp [hsz]
    omega
theorem wpList_pushM {P : Program} {ops : Array Oper} {rest : List Oper} {o : Oper} {a : Act} {Q : Exit → Act → World → Prop} (wr : World) (hgd : o.guard = none) (s x : Operand) (t : TypeId)
    (ho : o.op = .call { callee := .builtin .append, args := #[s, x], argTypes := #[t, t] })
    (base : Nat) (ht : P.underlying t = some (.slice 5)) (hinfo : (P.info? 5).map (fun i => (i.zero, i.size, i.bytes)) = some (some (.int .u8 0), 1, 1))
    (v : Value) (n : Nat) (xs : List Value) (hs : a.eval s = v) (hown : RowM wr base v n xs)
    (u : Value) (hu : u.oneCell' = true) (hx : a.eval x = .slice (some ⟨wr.heap.size, 0, none⟩) 1 1)
    (h63 : n + 1 ≤ 140737488355328)
    (h : ∀ v' w', RowM w' base v' (n + 1) (xs ++ [u]) → Below base wr w' → wpList P ops Q rest (a.put o.dst v') w') :
    wpList P ops Q (o :: rest) a (wr.alloc (.cells #[u] 5)) := by
  obtain ⟨i0, hi, hz0, hz1, hz2⟩ := info_parts hinfo
  have hA := bel_alloc wr (.cells #[u] 5)
  obtain ⟨h1, g, cap, h2, h3, h4, h5, h6, h7, h8⟩ := hown.below hA
  have hgw : g < wr.heap.size := by
    obtain ⟨_, g', cap', h2', _, h4', _⟩ := hown
    rw [h2] at h2'
    simp only [Value.slice.injEq, Option.some.injEq, Addr.mk.injEq] at h2'
    omega
  have hbase : base ≤ wr.heap.size := by omega
  refine wpList_append_arg (P := P) (wr.alloc (.cells #[u] 5)) hgd s x t ho 5 i0 (.int .u8 0) 1 1 ht hi hz0 hz1 hz2 rfl (by decide) g 0 n cap xs (hs.trans h2) (by omega) (fun j w hj => by rw [Nat.zero_add]; exact h7 j w hj) ⟨wr.heap.size, 0, none⟩ 1 1 [u] hx rfl (fun j w hj => ?_) (by simpa using hu) (fun hr j hj => ?_) (by unfold maxLen; omega) (by omega) (fun hr => ?_) (fun hr v' w' ho' hg' => ?_)
  · exact cells_new wr #[u] 5 j w hj
  · have hj0 : j = 0 := by simpa using hj
    subst hj0
    rw [Nat.zero_add, Nat.mul_one, Nat.add_zero]
    exact h8 n (by omega)
  · have hset : (wr.alloc (.cells #[u] 5)).setCells g (0 + n * 1) [u] = (wr.alloc (.cells #[u] 5)).setCell ⟨g, n, none⟩ u := by
      rw [Nat.zero_add, Nat.mul_one]; rfl
    rw [hset]
    have hn := (h8 n (by omega))
    refine h _ _ ⟨by simp [h1], g, cap, rfl, h3, by simp; omega, hr, h6, fun j w hj => ?_, fun j hj => ?_⟩ ?_
    · by_cases e : j = n
      · subst e
        rw [List.getElem?_append_right (by omega), h1] at hj
        simp at hj
        subst hj
        exact World.cell?_setCell_same' _ _ _ hn.1
      · rw [List.getElem?_append_left (by have := lt_of_some hj; simp at this; omega)] at hj
        rw [World.cell?_setCell_other _ _ _ _ (by simp)]
        exact h7 j w hj
    · rw [World.frozen?_setCell]
      refine ⟨?_, (h8 j hj).2⟩
      by_cases e : j = n
      · subst e
        rw [World.cell?_setCell_same' _ _ _ hn.1]; rfl
      · rw [World.cell?_setCell_other _ _ _ _ (by simp)]
        exact (h8 j hj).1
    · exact (hA.mono hbase).setCell (p := ⟨g, n, none⟩) h3 u
  · exact h v' w' (RowM.of_own ho' (by simp; omega) (by omega)) ((hA.mono hbase).grown hg' (by simp; omega) (fun k hk => by cases hk))
end Go.Proofs.YtgfeknjhkciooaaDoor
