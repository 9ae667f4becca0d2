/-
  graph.leaving: the edges that leave a state, as an iterator.
  No condition beyond the blocks that it reads being none that the loop's body writes.
-/
import Derived.Test.YtppflnkadjddiaaBeside
import Derived.Test.YtppflnkadjddiaaEdges
namespace Go.Proofs.Ytppflnkadjddiaa
open Go.RowKit Go.Shelf
attribute [local go_sem] Oper.semAt_some
set_option linter.unusedVariables false

/-- Blocks below n are as they were, but for block b. -/
structure But (n b : Nat) (w w' : World) : Prop where
  size : w.heap.size ≤ w'.heap.size
  block : ∀ k, k < n → k ≠ b → w'.heap[k]? = w.heap[k]?
theorem But.refl (n b : Nat) (w : World) : But n b w w := ⟨Nat.le_refl _, fun _ _ _ => rfl⟩
theorem But.trans {n b : Nat} {A B C : World} (h : But n b A B) (k : But n b B C) : But n b A C := ⟨Nat.le_trans h.size k.size, fun i h1 h2 => (k.block i h1 h2).trans (h.block i h1 h2)⟩
theorem But.cell {n b : Nat} {w w' : World} (h : But n b w w') {p : Addr} (h1 : p.block < n) (h2 : p.block ≠ b) : w'.cell? p = w.cell? p := World.cell?_of_block (h.block _ h1 h2)
theorem But.alloc {n b : Nat} {w w' : World} (h : But n b w w') (hn : n ≤ w'.heap.size) (o : Obj) : But n b w (w'.alloc o) :=
  h.trans ⟨by simp, fun k h1 _ => Below.heap_alloc _ _ _ (by omega)⟩
theorem But.of_below {n b : Nat} {w w' : World} (h : Below n w w') : But n b w w' := ⟨h.size, fun k h1 _ => h.block k h1⟩
theorem But.put {n b : Nat} {w : World} (hn : n ≤ w.heap.size) (W : World) (l : Nat) (o o' : Obj) (hl : w.heap.size ≤ l) (h : W.heap[l]? = some o) (_ : o.isCells = false) (_ : o.isWalk = false) : But n b W (W.putObj l o') :=
  But.of_below (belowK_b hn W l o o' hl h ‹_› ‹_›)

/-- The edges that leave s, of the first k, with their indices. -/
def leav1 (es : List Edge) (s : Int) (j : Nat) : Option (Nat × Edge) := es[j]?.bind fun x => if x.f = s then some (j, x) else none
def leavs (es : List Edge) (s : Int) (k : Nat) : List (Nat × Edge) := (List.range k).filterMap (leav1 es s)
theorem leavs_yes {es : List Edge} {s : Int} {k : Nat} {x : Edge} (hx : es[k]? = some x) (h : x.f = s) : leavs es s (k + 1) = leavs es s k ++ [(k, x)] := by
  simp [leavs, List.range_succ, List.filterMap_append, leav1, hx, h]
theorem leavs_no {es : List Edge} {s : Int} {k : Nat} {x : Edge} (hx : es[k]? = some x) (h : ¬ x.f = s) : leavs es s (k + 1) = leavs es s k := by
  simp [leavs, List.range_succ, List.filterMap_append, leav1, hx, h]
theorem leavs_prefix (es : List Edge) (s : Int) {k n : Nat} (h : k ≤ n) : leavs es s k <+: leavs es s n := by
  induction n with
  | zero => obtain rfl : k = 0 := by omega
            exact List.prefix_refl _
  | succ n ih =>
    by_cases hk : k = n + 1
    · rw [hk]; exact List.prefix_refl _
    · refine (ih (by omega)).trans ?_
      simp only [leavs, List.range_succ, List.filterMap_append]
      exact List.prefix_append _ _

set_option maxRecDepth 100000 in
set_option maxHeartbeats 2000000 in
theorem leave1_many (l Bg Bs n₀ b : Nat) (L S s : Int) (ao : Option Addr) (cap : Nat) (es : List Edge) (hBg : Bg < n₀) (hBs : Bs < n₀) (hBg2 : Bg ≠ b) (hBs2 : Bs ≠ b) (J Jx : List (Nat × Edge) → World → Prop) (hJa : ∀ pre W o, J pre W → J pre (W.alloc o)) (W : World) (hn : n₀ ≤ W.heap.size)
    (hY : ∀ pre x W, J pre W → pre.length < (leavs es s es.length).length → YieldAt Fence.wide (8 - 1) Try.prog l #[.int .i64 (x.1 : Nat), .agg #[.int .i64 (x.2 : Edge).f, .int .i64 x.2.l, .int .i64 x.2.t]] W fun e W' =>
      (e = .returned (.bool true) ∧ J (pre ++ [x]) W' ∧ But n₀ b W W') ∨ (e = .returned (.bool false) ∧ Jx (pre ++ [x]) W'))
    (c0 : W.cell? ⟨Bg, 0, none⟩ = some (.int .i64 L)) (c1 : W.cell? ⟨Bg, 1, none⟩ = some (.int .i64 S)) (c2 : W.cell? ⟨Bg, 2, none⟩ = some (.slice ao es.length cap)) (c3 : W.cell? ⟨Bs, 0, none⟩ = some (.int .i64 s))
    (hl : Sl 3 W (.slice ao es.length cap) es.length (ecells es)) (hao : ∀ bb oo, es.length ≠ 0 → ao = some ⟨bb, oo, none⟩ → bb < n₀ ∧ bb ≠ b) (h0 : J [] W) :
    CallsIn Fence.wide 8 Try.prog 91 #[.func (.yield l) #[] #[], .pointer (some ⟨Bg, 0, none⟩), .pointer (some ⟨Bs, 0, none⟩)] W fun e' W' => (∃ v, e' = .returned v) ∧
      ((∃ ys, ys = leavs es s es.length ∧ J ys W') ∨ (∃ pre, pre <+: leavs es s es.length ∧ Jx pre W')) := by
  have hm1 : es.length ≤ cap ∧ cap ≤ 9223372036854775807 := by
    obtain ⟨_, _, hv, _, hc1, hm1, _⟩ := id hl
    simp only [Value.slice.injEq] at hv
    rw [hv.2.2]; exact ⟨hc1, hm1⟩
  obtain ⟨hc1, hm1⟩ := hm1
  have HL := hid hl
  have HA := hid hao
  have HYq := hid hY
  have HJa := hid hJa
  clear hl hao hY hJa
  refine callsIn_of_wp Try.func91 rfl trivial ?_ rfl
  simp only [Try.ntmps91, List.size_toArray, List.length_cons, List.length_nil, Nat.reduceAdd, Nat.reduceSub, Array.replicate_succ, Array.replicate_zero, List.push_toArray, List.append_toArray, List.nil_append, List.cons_append]
  gi_wp2
  gi_loopw [9] (fun i wr => ∃ k : Nat, k ≤ es.length ∧ i = .int .i64 k ∧ J (leavs es s k) wr ∧ But n₀ b W wr) (fun i _ => es.length - (intOf i).toNat)
  case atStart => exact ⟨0, Nat.zero_le _, rfl, h0, But.refl _ _ _⟩
  case round =>
    obtain ⟨k, hk, rfl, hJs, hnx⟩ := hrel
    have HN := hid hnx
    have hsz := hnx.size
    by_cases hlt : k < es.length
    · obtain ⟨x, hx⟩ := some_of_lt hlt
      obtain ⟨be, oe, rfl, e0, e1, e2⟩ := HL.out.edge hx
      obtain ⟨hbe1, hbe2⟩ := HA.out be oe (by omega) rfl
      have e0 := (hnx.cell (p := ⟨be, oe + k * 3, none⟩) hbe1 hbe2).trans e0
      have e1 := (hnx.cell (p := ⟨be, oe + k * 3 + 1, none⟩) hbe1 hbe2).trans e1
      have e2 := (hnx.cell (p := ⟨be, oe + k * 3 + 2, none⟩) hbe1 hbe2).trans e2
      have d3 := (hnx.cell (p := ⟨Bs, 0, none⟩) hBs hBs2).trans c3
      have d4 : (wr.alloc (.cells #[.int .i64 x.f, .int .i64 x.l, .int .i64 x.t] 64)).cell? ⟨Bs, 0, none⟩ = some (.int .i64 s) := keeps ((Below.refl wr.heap.size wr).alloc (Nat.le_refl _) _) d3
      have HX := hid hx
      clear hx hnx d3
      by_cases hf : x.f = s
      · have hb : (x.f == s) = true := by simp [hf]
        have HLv := hid (leavs_yes HX.out hf)
        have hlen : (leavs es s k).length < (leavs es s es.length).length := by
          have := (leavs_prefix es s (show k + 1 ≤ es.length by omega)).length_le
          rw [HLv.out, List.length_append] at this
          simp at this
          omega
        have HY := hid (HYq.out (leavs es s k) (k, x) _ (HJa.out _ _ (.cells #[.int .i64 x.f, .int .i64 x.l, .int .i64 x.t] 64) hJs) hlen)
        clear hf hlen hJs
        obtain ⟨fn, tmps, assign, body, hy, hR⟩ := HY.out
        have HR := hid hR
        clear hR HY
        simp only at hy
        gi_wp2
        refine HR.out.mono ?_
        rintro e W3 (⟨rfl, hJ3, hk3⟩ | ⟨rfl, hJx3⟩)
        · have HN3 := hid ((HN.out.alloc (by omega) _).trans hk3)
          gi_wp2
          go_roundw
          case rel => exact ⟨k + 1, by omega, by go_num, by rw [HLv.out]; exact hJ3, HN3.out⟩
          case measure => simp [intOf]; omega
        · gi_wp2
          refine bodyPost_ret (results_none rfl _ _ _) rfl ?_
          exact ⟨⟨_, rfl⟩, .inr ⟨_, by rw [← HLv.out]; exact leavs_prefix _ _ (by omega), hJx3⟩⟩
      · have hb : (x.f == s) = false := by simp [hf]
        have HLv := hid (leavs_no HX.out hf)
        have HJn := hid (HJa.out _ _ (.cells #[.int .i64 x.f, .int .i64 x.l, .int .i64 x.t] 64) hJs)
        have HN3 := hid (HN.out.alloc (by omega) (.cells #[.int .i64 x.f, .int .i64 x.l, .int .i64 x.t] 64))
        clear hf hJs
        gi_wp2
        refine ⟨fun f h => (by cases h), ?_⟩
        gi_wp2
        go_roundw
        case rel => exact ⟨k + 1, by omega, by go_num, by rw [HLv.out]; exact HJn.out, HN3.out⟩
        case measure => simp [intOf]; omega
    · obtain rfl : k = es.length := by omega
      gi_wp2
      go_end0
      exact ⟨⟨_, rfl⟩, .inl ⟨_, rfl, hJs⟩⟩

/-- The iterator's contract. -/
theorem leave_stops (Bg Bs n₀ b : Nat) (L S s : Int) (ao : Option Addr) (cap : Nat) (es : List Edge) (w : World) (hBg : Bg < n₀) (hBs : Bs < n₀) (hBg2 : Bg ≠ b) (hBs2 : Bs ≠ b) (hn : n₀ ≤ w.heap.size)
    (c0 : w.cell? ⟨Bg, 0, none⟩ = some (.int .i64 L)) (c1 : w.cell? ⟨Bg, 1, none⟩ = some (.int .i64 S)) (c2 : w.cell? ⟨Bg, 2, none⟩ = some (.slice ao es.length cap)) (c3 : w.cell? ⟨Bs, 0, none⟩ = some (.int .i64 s))
    (hl : Sl 3 w (.slice ao es.length cap) es.length (ecells es)) (hao : ∀ bb oo, es.length ≠ 0 → ao = some ⟨bb, oo, none⟩ → bb < n₀ ∧ bb ≠ b) :
    SeqStopsK Fence.wide 8 Try.prog 91 #[.pointer (some ⟨Bg, 0, none⟩), .pointer (some ⟨Bs, 0, none⟩)] (fun x : Nat × Edge => #[Value.int .i64 (x.1 : Nat), .agg #[.int .i64 x.2.f, .int .i64 x.2.l, .int .i64 x.2.t]]) (But n₀ b)
      (fun ys => ys = leavs es s es.length) (fun pre => pre <+: leavs es s es.length) (leavs es s es.length).length w := fun l J Jx W hW hJ _ hY h0 => by
  have k : ∀ (g j : Nat) (v : Value), g < n₀ → w.cell? ⟨g, j, none⟩ = some v → W.cell? ⟨g, j, none⟩ = some v := fun g j v hg hc => (hW.cell (p := ⟨g, j, none⟩) (by show g < _; omega)).trans hc
  refine leave1_many l Bg Bs n₀ b L S s ao cap es hBg hBs hBg2 hBs2 J Jx (fun pre W1 o hj => hJ pre W1 _ none hj (World.grownBy_alloc W1 o none) (by simp)) W (Nat.le_trans hn hW.size) hY (k _ _ _ hBg c0) (k _ _ _ hBg c1) (k _ _ _ hBg c2) (k _ _ _ hBs c3) (hl.below hW) hao h0
end Go.Proofs.Ytppflnkadjddiaa
