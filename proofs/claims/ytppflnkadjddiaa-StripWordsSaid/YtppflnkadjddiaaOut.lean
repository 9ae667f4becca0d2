/-
  graph.Out: the indices of the edges that leave a state.
  The graph is valid, the state is one of it.
-/
import Derived.Test.YtppflnkadjddiaaLeaving
namespace Go.Proofs.Ytppflnkadjddiaa
open Go.RowKit Go.Shelf
attribute [local go_sem] Oper.semAt_some
set_option linter.unusedVariables false

def idxs (l : List (Nat × Edge)) : List Int := l.map (fun x => (x.1 : Int))
theorem idxs_snoc (l : List (Nat × Edge)) (x : Nat × Edge) : idxs (l ++ [x]) = idxs l ++ [(x.1 : Int)] := by simp [idxs]
theorem idxs_len (l : List (Nat × Edge)) : (idxs l).length = l.length := by simp [idxs]
def outI (es : List Edge) (s : Int) : List Int := idxs (leavs es s es.length)

set_option maxHeartbeats 400000 in
theorem leaving_any (L S s : Int) (v : Value) (w : World) :
    Calls Try.prog 61 #[.agg #[.int .i64 L, .int .i64 S, v], .int .i64 s] w fun e w' => e = .returned (.func (.func 91) #[] #[.pointer (some ⟨w.heap.size, 0, none⟩), .pointer (some ⟨w.heap.size + 1, 0, none⟩)]) ∧
      w' = (w.alloc (.cells #[.int .i64 L, .int .i64 S, v] 55)).alloc (.cells #[.int .i64 s] 3) := by
  go_enter Try.func61, Try.ntmps61
  go_wp2
  go_ret
  exact ⟨rfl, rfl⟩

set_option maxRecDepth 100000 in
set_option maxHeartbeats 2000000 in
theorem out_any (L S s : Int) (v : Value) (es : List Edge) (w : World) (hF : GFine L S es) (hs0 : 0 ≤ s) (hs1 : s < S) (hl : Sl 3 w v es.length (ecells es)) :
    Calls Try.prog 37 #[.agg #[.int .i64 L, .int .i64 S, v], .int .i64 s] w fun e w' => ∃ u, e = .returned (.tuple #[u, .int .i64 0]) ∧ w'.ownsRow w.heap.size 3 1 u (outI es s).length (ints (outI es s)) ∧ Below w.heap.size w w' := by
  obtain ⟨ao, cap, rfl, _, hc1, hm1, _⟩ := id hl
  have HL := hid hl
  have HC := hid (fun W h => gcheck_any L S (.slice ao es.length cap) es W hF h)
  have hlen := hF.len
  clear hl hF
  refine (callsIn_wide (n := 9)).1 ?_
  refine callsIn_of_wp_marks Try.func37 rfl trivial ?_ rfl
  simp only [Try.ntmps37, List.size_toArray, List.length_cons, List.length_nil, Nat.reduceAdd, Nat.reduceSub, Array.replicate_succ, Array.replicate_zero, List.push_toArray, List.append_toArray, List.nil_append, List.cons_append]
  have c0 : (w.alloc (.cells #[.int .i64 L, .int .i64 S, .slice ao es.length cap] 55)).cell? ⟨w.heap.size, 0, none⟩ = some (.int .i64 L) := by simp
  have c1 : (w.alloc (.cells #[.int .i64 L, .int .i64 S, .slice ao es.length cap] 55)).cell? ⟨w.heap.size, 1, none⟩ = some (.int .i64 S) := by simp
  have c2 : (w.alloc (.cells #[.int .i64 L, .int .i64 S, .slice ao es.length cap] 55)).cell? ⟨w.heap.size, 2, none⟩ = some (.slice ao es.length cap) := by simp
  gi_wp2_with (first
    | (refine ⟨trivial, ?_⟩; gi_at_call 36; refine (callsIn_wide.2 (HC.out _ (HL.out.below ((Below.refl _ _).alloc (Nat.le_refl _) _)))).mono ?_; rintro e' w1 ⟨rfl, hb1⟩; have c0 := keeps hb1 c0; have c1 := keeps hb1 c1; have c2 := keeps hb1 c2; have d0 := keeps ((Below.refl w1.heap.size w1).alloc (Nat.le_refl _) (.cells #[.slice none 0 0] 24)) c0; have d1 := keeps ((Below.refl w1.heap.size w1).alloc (Nat.le_refl _) (.cells #[.slice none 0 0] 24)) c1; have d2 := keeps ((Below.refl w1.heap.size w1).alloc (Nat.le_refl _) (.cells #[.slice none 0 0] 24)) c2)
    | (refine ⟨trivial, ?_⟩; gi_at_call 61; refine (callsIn_wide.2 (leaving_any L S s _ _)).mono ?_; rintro e' w' ⟨rfl, rfl⟩))
  obtain ⟨i0, hi, hz0, hz1, hz2⟩ := info_parts Try.info3
  have hsl1 := HL.out.below (((Below.refl _ _).alloc (Nat.le_refl _) (.cells #[.int .i64 L, .int .i64 S, .slice ao es.length cap] 55)).trans (hb1.mono (by simp)))
  have hB1 : Below w.heap.size w w1 := ((Below.refl _ _).alloc (Nat.le_refl _) _).trans (hb1.mono (by simp))
  have hao : ∀ bb oo, es.length ≠ 0 → ao = some ⟨bb, oo, none⟩ → bb < w.heap.size := by
    intro bb oo hne e
    obtain ⟨x, hx⟩ := some_of_lt (l := es) (k := 0) (by omega)
    obtain ⟨b', o', e', c0', _⟩ := HL.out.edge hx
    rw [e] at e'
    simp only [Option.some.injEq, Addr.mk.injEq, and_true] at e'
    obtain ⟨rfl, rfl⟩ := e'
    exact World.block_lt_of_cell? w _ c0'
  clear c0 c1 c2 d0 d1 d2 HC hb1
  obtain ⟨b6, hb6⟩ : ∃ b6, b6 = w1.heap.size := ⟨_, rfl⟩
  have hwb : w.heap.size ≤ b6 := by rw [hb6]; exact hB1.size
  have bO := Boxed.new w1 24 (.slice none 0 0)
  have bS := Boxed.new ((w1.alloc (.cells #[.slice none 0 0] 24)).alloc (.cells #[.int .i64 L, .int .i64 S, .slice ao es.length cap] 55)) 3 (.int .i64 s)
  have hB3 : Below w1.heap.size w1 (((w1.alloc (.cells #[.slice none 0 0] 24)).alloc (.cells #[.int .i64 L, .int .i64 S, .slice ao es.length cap] 55)).alloc (.cells #[.int .i64 s] 3)) := (((Below.refl _ _).alloc (Nat.le_refl _) _).alloc (by simp) _).alloc (by simp; omega) _
  have bO3 := (bO.alloc (.cells #[.int .i64 L, .int .i64 S, .slice ao es.length cap] 55)).alloc (.cells #[.int .i64 s] 3)
  have hg : Below (w1.heap.size + 2) ((w1.alloc (.cells #[.slice none 0 0] 24)).alloc (.cells #[.int .i64 L, .int .i64 S, .slice ao es.length cap] 55)) (((w1.alloc (.cells #[.slice none 0 0] 24)).alloc (.cells #[.int .i64 L, .int .i64 S, .slice ao es.length cap] 55)).alloc (.cells #[.int .i64 s] 3)) := (Below.refl _ _).alloc (by simp) _
  have k0 : (((w1.alloc (.cells #[.slice none 0 0] 24)).alloc (.cells #[.int .i64 L, .int .i64 S, .slice ao es.length cap] 55)).alloc (.cells #[.int .i64 s] 3)).cell? ⟨w1.heap.size + 1, 0, none⟩ = some (.int .i64 L) := (hg.cell (p := ⟨w1.heap.size + 1, 0, none⟩) (by show w1.heap.size + 1 < w1.heap.size + 2; omega)).trans (by rw [← World.size_alloc w1 (.cells #[.slice none 0 0] 24)]; simp)
  have k1 : (((w1.alloc (.cells #[.slice none 0 0] 24)).alloc (.cells #[.int .i64 L, .int .i64 S, .slice ao es.length cap] 55)).alloc (.cells #[.int .i64 s] 3)).cell? ⟨w1.heap.size + 1, 1, none⟩ = some (.int .i64 S) := (hg.cell (p := ⟨w1.heap.size + 1, 1, none⟩) (by show w1.heap.size + 1 < w1.heap.size + 2; omega)).trans (by rw [← World.size_alloc w1 (.cells #[.slice none 0 0] 24)]; simp)
  have k2 : (((w1.alloc (.cells #[.slice none 0 0] 24)).alloc (.cells #[.int .i64 L, .int .i64 S, .slice ao es.length cap] 55)).alloc (.cells #[.int .i64 s] 3)).cell? ⟨w1.heap.size + 1, 2, none⟩ = some (.slice ao es.length cap) := (hg.cell (p := ⟨w1.heap.size + 1, 2, none⟩) (by show w1.heap.size + 1 < w1.heap.size + 2; omega)).trans (by rw [← World.size_alloc w1 (.cells #[.slice none 0 0] 24)]; simp)
  have k3 := bS.cell
  rw [World.size_alloc, World.size_alloc] at k3
  have hsz3 : (((w1.alloc (.cells #[.slice none 0 0] 24)).alloc (.cells #[.int .i64 L, .int .i64 S, .slice ao es.length cap] 55)).alloc (.cells #[.int .i64 s] 3)).heap.size = w1.heap.size + 3 := by simp
  have hsl3 := hsl1.below hB3
  have hBw := hB1.trans (hB3.mono hB1.size)
  clear bO bS hg hB3 hB1 hsl1
  generalize hW3 : (((w1.alloc (.cells #[.slice none 0 0] 24)).alloc (.cells #[.int .i64 L, .int .i64 S, .slice ao es.length cap] 55)).alloc (.cells #[.int .i64 s] 3)) = W3 at *
  rw [show w1.heap.size + 1 + 1 = w1.heap.size + 2 from rfl] at k3 ⊢
  rw [← hb6] at bO3 k0 k1 k2 k3 hsz3 ⊢
  clear hb6 hW3
  have hlv := (leavs_prefix es s (Nat.le_refl es.length)).length_le
  have hll : (leavs es s es.length).length ≤ es.length := by
    have := List.length_filterMap_le (leav1 es s) (List.range es.length)
    simpa [leavs] using this
  have HSt := hid (leave_stops (b6 + 1) (b6 + 2) (b6 + 3) b6 L S s ao cap es W3 (by omega) (by omega) (by omega) (by omega) (by omega) k0 k1 k2 k3 hsl3 ?hAo)
  case hAo =>
    intro bb oo hne e
    have := hao bb oo hne e
    omega
  refine wpIn_rangeFunc_ownF rfl (by decide) (gf := 91) (lb := #[.pointer (some ⟨b6 + 1, 0, none⟩), .pointer (some ⟨b6 + 2, 0, none⟩)]) rfl trivial (enters_of Try.func91 (by kernel_rfl) rfl)
    HSt.out (fun h k => h.trans k) (fun W l o o' h1 h2 h3 h4 => But.put (w := W3) (by omega) W l o o' h1 h2 h3 h4) (Below.refl _ _) (fun _ => rfl)
    (fun pre W => (∃ v, Boxed W b6 24 v ∧ W.ownsRow (b6 + 3) 3 1 v pre.length (ints (idxs pre)) ∧ True) ∧ Below w.heap.size w W ∧ b6 + 3 ≤ W.heap.size)
    (fun _ _ _ => False)
    (OwnFrom.and (Own.from (holdsRow_own (b6 + 3) b6 24 3 1 (fun pre : List (Nat × Edge) => pre.length) (fun pre => ints (idxs pre)) (fun _ _ => True)) _) (OwnFrom.and (ownFrom_below (Nat.le_refl _) (by omega)) (fun _ _ _ _ h hg _ => Nat.le_trans h hg.size)))
    (fun _ _ _ _ _ hs _ _ => hs)
    ⟨⟨_, bO3, World.ownsRow_nil _ _ _ _, trivial⟩, hBw, by omega⟩
    (fun x => { tmps := #[.agg #[.int .i64 L, .int .i64 S, .slice ao es.length cap], .int .i64 s, .pointer (some ⟨w.heap.size, 0, none⟩), undef, .slice none 0 0, .int .i64 0, .pointer (some ⟨b6, 0, none⟩), .int .i64 (x.1 : Nat), .agg #[.int .i64 L, .int .i64 S, .slice ao es.length cap], .int .i64 0, .bool false, .int .i64 s, .bool (decide (s < 0)), .bool (decide (s < 0)), .int .i64 s, .pointer (some ⟨w.heap.size, 1, none⟩), .int .i64 S, .bool (decide (S ≤ s)), .bool (decide (s < 0) || decide (S ≤ s)), .agg #[.int .i64 L, .int .i64 S, .slice ao es.length cap], .int .i64 s,
      .func (.func 91) #[] #[.pointer (some ⟨b6 + 1, 0, none⟩), .pointer (some ⟨b6 + 2, 0, none⟩)], .int .i64 (x.1 : Nat), .agg #[.int .i64 x.2.f, .int .i64 x.2.l, .int .i64 x.2.t], undef, undef, undef, undef, undef], defers := [] }) ?assign ?body ?done ?stop
  case assign =>
    intro l x W K hK
    gi_wp2
    exact hK
  case body =>
    rintro l pre x W ⟨⟨v, hv, hrow, _⟩, hB, hWs⟩ hlt
    have hc := hv.cell
    have hpl : pre.length ≤ 1024 := by omega
    gi_wp2_with (gi_at_builtin; refine wpListIn_append_own _ rfl _ _ 24 rfl (b6 + 3) 3 i0 (.int .i64 0) 1 8 Try.underlying24 hi hz0 hz1 hz2 rfl (by decide) _ _ _ rfl (hrow.alloc _) ⟨W.heap.size, 0, none⟩ 1 1 [.int .i64 (x.1 : Nat)] rfl rfl (cell_one_new _ _ _) (by simp [Value.oneCell']) (by unfold maxLen; omega) (by omega) (by simp; omega) ?_; intro v' w2 hown' hgrow _; obtain ⟨g', cap', rfl⟩ := ownsRow_succ hown'; obtain ⟨hv1, hv2, _, hk2, hb2⟩ := hv.appended (n₀ := w.heap.size) (by decide) (own_base hrow (by omega)) (by omega) hwb (own_base hown' (by omega)) hgrow; have hc1 := hv1.cell; have hf1 := hv1.frozen)
    have hsz2 : W.heap.size ≤ w2.heap.size := by have := hgrow.size; simp at this; omega
    have hbut : But (b6 + 3) b6 W (w2.setCell ⟨b6, 0, none⟩ (.slice (some ⟨g', 0, none⟩) (pre.length + 1) cap')) := by
      refine ⟨by rw [World.size_setCell]; exact hsz2, fun k h1 h2 => ?_⟩
      refine (Below.heap_setCell _ _ _ k h2).trans ((hgrow.block k (by simp; omega) ?_).trans (Below.heap_alloc _ _ _ (by omega)))
      show some k ≠ v.ownBlock
      rcases hrow.2 with ⟨rfl, _⟩ | ⟨g, cp, cur, rfl, hgb, _⟩
      · simp [Value.ownBlock]
      · intro e
        obtain rfl : k = g := by simpa [Value.ownBlock] using e
        omega
    refine ⟨hk2, hbut, ⟨⟨_, hv2, ?_, trivial⟩, hB.trans hb2, by rw [World.size_setCell]; omega⟩⟩
    rw [idxs_snoc, ints_snoc, List.length_append]
    exact ownsRow_setCell_below hown' (by show b6 < b6 + 3; omega) _
  case done =>
    rintro D ys W hD rfl ⟨⟨v, hv, hrow, _⟩, hB, _⟩ hK
    have hc := hv.cell
    gi_wp2
    refine ⟨by simp, .inl ⟨_, _, rfl, run_takeDeferred hK, ?_⟩⟩
    refine ⟨.tuple #[v, .int .i64 0], ?_, v, rfl, ?_, ?_⟩
    · simp [results, Try.f37, go_sem]
    · rw [outI, idxs_len]
      exact own_base (ownsRow_putObj hrow _ hK rfl) (by omega)
    · exact hB.trans (belowK_b (w := W3) (by omega) W D _ _ hD hK rfl rfl)
  case stop =>
    rintro D c pre W _ _ h _
    exact h.elim
end Go.Proofs.Ytppflnkadjddiaa
