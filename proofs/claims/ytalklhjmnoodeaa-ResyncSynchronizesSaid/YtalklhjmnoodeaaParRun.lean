/-
  parser.Run at a parser that was built from a maximal prefix code.
  The parser's rows lie in memory; the word is one over its letters.
-/
import Derived.Test.YtalklhjmnoodeaaParSteps
import Derived.Test.YtalklhjmnoodeaaParChk
import Derived.Test.YtalklhjmnoodeaaTable45
import Derived.Sort.CutIn
namespace Go.Proofs.Ytalklhjmnoodeaa
open Go.RowKit Go.Shelf
attribute [local go_sem] Oper.semAt_some
set_option linter.unusedVariables false

set_option maxHeartbeats 1000000 in
theorem preads_any (q : Nat) (ws : List ByteArray) (vS vN vE : Value) (x : ByteArray) (w : World) (hP : PVal w vS vN vE (sizeW ws) q (stW ws) (nxI ws) (emI ws)) (hg : goodB q ws = true) :
    Calls Try.prog 52 #[.agg #[.int .i64 (q : Int), vS, vN, vE], .string x] w fun e w' => e = .returned (.int .i64 (wordErr q x)) ∧ Below w.heap.size w w' := by
  have HCk := hid (fun X h => pcheck_any q ws vS vN vE X h hg)
  have HWc := hid (fun X => wcheck_any (q : Int) x X)
  have HP := hid hP
  obtain ⟨aS, cS, rfl, _⟩ := id hP.s
  obtain ⟨aN, cN, rfl, _, _⟩ := hP.nx.slice
  obtain ⟨aE, cE, rfl, _, _⟩ := hP.em.slice
  clear hP hg
  go_enter Try.func52, Try.ntmps52
  go_upto_region 1 with fail
  obtain ⟨w0, hw0⟩ : ∃ w0, w.alloc (.cells #[.int .i64 (q : Int), .slice aS (sizeW ws) cS, .slice aN (sizeW ws) cN, .slice aE (sizeW ws) cE] 36) = w0 := ⟨_, rfl⟩
  obtain ⟨hb0, p0, p1, p2, p3⟩ := boxP hw0
  rw [hw0]
  have HB0 := hid hb0
  clear hw0 hb0
  go_wp2_with (first
    | (go_at_call 69; refine (HCk.out _ (HP.out.below HB0.out)).mono ?_; rintro e w1 ⟨rfl, hb1⟩; have HB1 := hid (bel_step HB0.out hb1); have p0 := keeps hb1 p0)
    | (go_at_call 21; refine (HWc.out _).mono ?_; rintro e w2 ⟨rfl, hD⟩))
  go_ret
  exact ⟨rfl, bel_step HB1.out (hD.below _)⟩

theorem psteps_any (q s : Int) (aS aN aE : Option Addr) (nS cS nN cN nE cE : Nat) (x : ByteArray) (w : World) :
    Calls Try.prog 53 #[.agg #[.int .i64 q, .slice aS nS cS, .slice aN nN cN, .slice aE nE cE], .int .i64 s, .string x] w fun e w' => e = .returned (.func (.func 70) #[] #[.pointer (some ⟨w.heap.size + 2, 0, none⟩), .pointer (some ⟨w.heap.size, 0, none⟩), .pointer (some ⟨w.heap.size + 1, 0, none⟩)]) ∧
      w' = ((w.alloc (.cells #[.int .i64 q, .slice aS nS cS, .slice aN nN cN, .slice aE nE cE] 36)).alloc (.cells #[.int .i64 s] 3)).alloc (.cells #[.string x] 9) := by
  go_enter Try.func53, Try.ntmps53
  go_wp2
  go_ret
  exact ⟨rfl, rfl⟩
theorem good_of {q : Int} {ws : List ByteArray} (h : aErr q ws = 0) : goodB q ws = true := by
  obtain ⟨h1, h2⟩ := bErr_zero.1 (aErr_b h)
  unfold goodB
  simp [h1, h2]

/-- While the letters are read: k are done with, the iterator's own state is that behind j. -/
structure RunIn (w : World) (b B1 : Nat) (P : Array Value) (x : ByteArray) (nx : Nat → Nat → Nat) (em : Nat → Nat → Int) (s k j : Nat) (W : World) : Prop where
  bel : Below w.heap.size w W
  size : b + 5 ≤ W.heap.size
  out : ∃ v, Boxed W b 41 v ∧ W.ownsRow (b + 5) 3 1 v (emsN nx em s (x.data.toList.take k)).length (ints (emsN nx em s (x.data.toList.take k)))
  n : Boxed W (b + 1) 3 (.int .i64 (k : Int))
  p : W.heap[b + 2]? = some (.cells P 36 (0, 0))
  si : Boxed W (b + 3) 3 (.int .i64 (sK nx s x j : Nat))
  w : Boxed W (b + 4) 9 (.string x)
  s : Boxed W B1 3 (.int .i64 (sK nx s x k : Nat))
section
variable {w : World} {b B1 : Nat} {P : Array Value} {x : ByteArray} {nx : Nat → Nat → Nat} {em : Nat → Nat → Int} {s k j : Nat} {W : World}
theorem RunIn.alloc (h : RunIn w b B1 P x nx em s k j W) (o : Obj) : RunIn w b B1 P x nx em s k j (W.alloc o) := by
  obtain ⟨v, h1, h2⟩ := h.out
  exact ⟨h.bel.alloc h.bel.size o, by have := h.size; simp; omega, ⟨v, h1.alloc o, h2.alloc o⟩, h.n.alloc o, (Below.heap_alloc _ _ _ (by have := h.size; omega)).trans h.p, h.si.alloc o, h.w.alloc o, h.s.alloc o⟩
theorem RunIn.putObj (h : RunIn w b B1 P x nx em s k j W) (hB1 : B1 < b) (hw : w.heap.size ≤ b) {l : Nat} {o : Obj} (o' : Obj) (hl : b + 5 ≤ l) (ho : W.heap[l]? = some o) (hc : o.isCells = false) : RunIn w b B1 P x nx em s k j (W.putObj l o') := by
  obtain ⟨v, h1, h2⟩ := h.out
  have e : ∀ g, g < b + 5 → (W.putObj l o').heap[g]? = W.heap[g]? := fun g hg => World.putObj_heap_other (by omega)
  refine ⟨h.bel.trans ⟨rfl, rfl, rfl, by simp, fun g hg => e g (by omega)⟩, by rw [World.putObj_size]; exact h.size, ⟨v, (e _ (by omega)).trans h1, ownsRow_putObj h2 o' ho hc⟩, (e _ (by omega)).trans h.n, (e _ (by omega)).trans h.p, (e _ (by omega)).trans h.si, (e _ (by omega)).trans h.w, (e _ (by omega)).trans h.s⟩
theorem boxed_other {W : World} {B g : Nat} {t : TypeId} {v : Value} (h : Boxed W B t v) (hne : B ≠ g) (u : Value) : Boxed (W.setCell ⟨g, 0, none⟩ u) B t v := (Below.heap_setCell _ _ _ B hne).trans h
/-- The iterator has stored its next state. -/
theorem RunIn.step (h : RunIn w b B1 P x nx em s k k W) (hB1 : B1 < b) (hw : w.heap.size ≤ b) (j : Nat) : RunIn w b B1 P x nx em s k j (W.setCell ⟨b + 3, 0, none⟩ (.int .i64 (sK nx s x j : Nat))) := by
  obtain ⟨v, h1, h2⟩ := h.out
  exact ⟨h.bel.setCell (p := ⟨b + 3, 0, none⟩) (by show w.heap.size ≤ b + 3; omega) _, by rw [World.size_setCell]; exact h.size, ⟨v, boxed_other h1 (by omega) _, ownsRow_setCell_below h2 (by show b + 3 < b + 5; omega) _⟩, boxed_other h.n (by omega) _,
    (Below.heap_setCell _ _ _ (b + 2) (by show b + 2 ≠ b + 3; omega)).trans h.p, h.si.set _, boxed_other h.w (by omega) _, boxed_other h.s (by omega) _⟩
/-- What an append to the result leaves, and what the stores behind it do. -/
structure Pushed (w : World) (b B1 : Nat) (P : Array Value) (x : ByteArray) (nx : Nat → Nat → Nat) (em : Nat → Nat → Int) (s k : Nat) (W : World) (v v' : Value) (w2 : World) : Prop where
  b2 : w2.cell? ⟨b, 0, none⟩ = some v
  f2 : w2.frozen? ⟨b, 0, none⟩ = false
  n3 : (w2.setCell ⟨b, 0, none⟩ v').cell? ⟨b + 1, 0, none⟩ = some (.int .i64 (k : Int))
  g3 : (w2.setCell ⟨b, 0, none⟩ v').frozen? ⟨b + 1, 0, none⟩ = false
  s4 : ((w2.setCell ⟨b, 0, none⟩ v').setCell ⟨b + 1, 0, none⟩ (.int .i64 ((k : Int) + 1))).cell? ⟨B1, 0, none⟩ = some (.int .i64 (sK nx s x k : Nat))
  h4 : ((w2.setCell ⟨b, 0, none⟩ v').setCell ⟨b + 1, 0, none⟩ (.int .i64 ((k : Int) + 1))).frozen? ⟨B1, 0, none⟩ = false
  kept : KeepsOthers W (((w2.setCell ⟨b, 0, none⟩ v').setCell ⟨b + 1, 0, none⟩ (.int .i64 ((k : Int) + 1))).setCell ⟨B1, 0, none⟩ (.int .i64 (sK nx s x (k + 1) : Nat)))
  next : RunIn w b B1 P x nx em s (k + 1) (k + 1) (((w2.setCell ⟨b, 0, none⟩ v').setCell ⟨b + 1, 0, none⟩ (.int .i64 ((k : Int) + 1))).setCell ⟨B1, 0, none⟩ (.int .i64 (sK nx s x (k + 1) : Nat)))
theorem RunIn.push (h : RunIn w b B1 P x nx em s k (k + 1) W) (hw : w.heap.size ≤ B1) (hB1 : B1 < b) {c : UInt8} (hc : x.data.toList[k]? = some c) (hE : 0 ≤ eK nx em s x k) {v v' : Value} {w2 : World} {tmp : Obj} (hv : Boxed W b 41 v)
    (hrow : W.ownsRow (b + 5) 3 1 v (emsN nx em s (x.data.toList.take k)).length (ints (emsN nx em s (x.data.toList.take k))))
    (hown : w2.ownsRow (b + 5) 3 1 v' ((emsN nx em s (x.data.toList.take k)).length + 1) (ints (emsN nx em s (x.data.toList.take k)) ++ [.int .i64 (eK nx em s x k)])) (hg : (W.alloc tmp).grownBy w2 v.ownBlock) :
    Pushed w b B1 P x nx em s k W v v' w2 := by
  have hsz := h.size
  have e2 : ∀ g, g < b + 5 → w2.heap[g]? = W.heap[g]? := fun g hg' => (hg.block g (by simp; omega) (row_ne_low hrow (by omega))).trans (Below.heap_alloc _ _ _ (by omega))
  obtain ⟨hv1, hv2, _, hk2, hb2⟩ := hv.appended (n₀ := w.heap.size) (by decide) (own_base hrow (by omega)) (by omega) (by omega) (own_base hown (by omega)) hg
  have n2 : Boxed w2 (b + 1) 3 (.int .i64 (k : Int)) := (e2 _ (by omega)).trans h.n
  have s2 : Boxed w2 B1 3 (.int .i64 (sK nx s x k : Nat)) := (e2 _ (by omega)).trans h.s
  have n3 := boxed_other n2 (g := b) (by omega) v'
  have s3 := boxed_other s2 (g := b) (by omega) v'
  have s4 := boxed_other s3 (g := b + 1) (by omega) (.int .i64 ((k : Int) + 1))
  have hems : emsN nx em s (x.data.toList.take (k + 1)) = emsN nx em s (x.data.toList.take k) ++ [eK nx em s x k] := by
    rw [take_snoc hc, emsN_snoc, eK_at hc]
    rw [eK_at hc] at hE
    unfold sK at hE ⊢
    rw [if_pos hE]
  refine ⟨hv1.cell, hv1.frozen, n3.cell, n3.frozen, s4.cell, s4.frozen, (hk2.trans (KeepsOthers.setCell _ _ _)).trans (KeepsOthers.setCell _ _ _), ?_⟩
  refine ⟨((h.bel.trans hb2).setCell (p := ⟨b + 1, 0, none⟩) (by show w.heap.size ≤ b + 1; omega) _).setCell (p := ⟨B1, 0, none⟩) hw _, ?_, ⟨v', boxed_other (boxed_other hv2 (by omega) _) (by omega) _, ?_⟩, ?_, ?_, ?_, ?_, s4.set _⟩
  · have := hg.size; simp at this; simp only [World.size_setCell]; omega
  · rw [hems, List.length_append, ints_snoc]
    exact ownsRow_setCell_below (ownsRow_setCell_below (ownsRow_setCell_below hown (by show b < b + 5; omega) _) (by show b + 1 < b + 5; omega) _) (by show B1 < b + 5; omega) _
  · have := boxed_other (n3.set (.int .i64 ((k : Int) + 1))) (g := B1) (by omega) (.int .i64 (sK nx s x (k + 1) : Nat))
    simpa using this
  · exact (Below.heap_setCell _ _ _ (b + 2) (by show b + 2 ≠ B1; omega)).trans ((Below.heap_setCell _ _ _ (b + 2) (by show b + 2 ≠ b + 1; omega)).trans ((Below.heap_setCell _ _ _ (b + 2) (by show b + 2 ≠ b; omega)).trans ((e2 _ (by omega)).trans h.p)))
  · exact boxed_other (boxed_other (boxed_other ((e2 _ (by omega)).trans h.si) (by omega) _) (by omega) _) (by omega) _
  · exact boxed_other (boxed_other (boxed_other ((e2 _ (by omega)).trans h.w) (by omega) _) (by omega) _) (by omega) _
/-- The same where no word ends. -/
theorem RunIn.skip (h : RunIn w b B1 P x nx em s k (k + 1) W) (hw : w.heap.size ≤ B1) (hB1 : B1 < b) {c : UInt8} (hc : x.data.toList[k]? = some c) (hE : ¬ 0 ≤ eK nx em s x k) :
    (W.setCell ⟨b + 1, 0, none⟩ (.int .i64 ((k : Int) + 1))).cell? ⟨B1, 0, none⟩ = some (.int .i64 (sK nx s x k : Nat)) ∧ (W.setCell ⟨b + 1, 0, none⟩ (.int .i64 ((k : Int) + 1))).frozen? ⟨B1, 0, none⟩ = false ∧
    KeepsOthers W ((W.setCell ⟨b + 1, 0, none⟩ (.int .i64 ((k : Int) + 1))).setCell ⟨B1, 0, none⟩ (.int .i64 (sK nx s x (k + 1) : Nat))) ∧
    RunIn w b B1 P x nx em s (k + 1) (k + 1) ((W.setCell ⟨b + 1, 0, none⟩ (.int .i64 ((k : Int) + 1))).setCell ⟨B1, 0, none⟩ (.int .i64 (sK nx s x (k + 1) : Nat))) := by
  obtain ⟨v, hv, hrow⟩ := h.out
  have s4 := boxed_other h.s (g := b + 1) (by omega) (.int .i64 ((k : Int) + 1))
  have hems : emsN nx em s (x.data.toList.take (k + 1)) = emsN nx em s (x.data.toList.take k) := by
    rw [take_snoc hc, emsN_snoc]
    rw [eK_at hc] at hE
    unfold sK at hE
    rw [if_neg hE]
  refine ⟨s4.cell, s4.frozen, (KeepsOthers.setCell _ _ _).trans (KeepsOthers.setCell _ _ _), ?_⟩
  refine ⟨(h.bel.setCell (p := ⟨b + 1, 0, none⟩) (by show w.heap.size ≤ b + 1; omega) _).setCell (p := ⟨B1, 0, none⟩) hw _, by simp only [World.size_setCell]; exact h.size, ⟨v, boxed_other (boxed_other hv (by omega) _) (by omega) _, ?_⟩, ?_, ?_, ?_, ?_, s4.set _⟩
  · rw [hems]
    exact ownsRow_setCell_below (ownsRow_setCell_below hrow (by show b + 1 < b + 5; omega) _) (by show B1 < b + 5; omega) _
  · have := boxed_other (h.n.set (.int .i64 ((k : Int) + 1))) (g := B1) (by omega) (.int .i64 (sK nx s x (k + 1) : Nat))
    simpa using this
  · exact (Below.heap_setCell _ _ _ (b + 2) (by show b + 2 ≠ B1; omega)).trans ((Below.heap_setCell _ _ _ (b + 2) (by show b + 2 ≠ b + 1; omega)).trans h.p)
  · exact boxed_other (boxed_other h.si (by omega) _) (by omega) _
  · exact boxed_other (boxed_other h.w (by omega) _) (by omega) _
end

set_option maxRecDepth 100000 in
set_option maxHeartbeats 4000000 in
theorem parRun_any (q : Nat) (ws : List ByteArray) (vS vN vE : Value) (s : Nat) (x : ByteArray) (w : World) (hP : PVal w vS vN vE (sizeW ws) q (stW ws) (nxI ws) (emI ws)) (hA : aErr q ws = 0) (hs : s < sizeW ws) (hn : sizeW ws ≤ 1000) (hx : wordErr q x = 0) :
    Calls Try.prog 30 #[.agg #[.int .i64 (q : Int), vS, vN, vE], .int .i64 (s : Int), .string x] w fun e w' => ∃ u, e = .returned (.tuple #[u, .int .i64 (runN (nxN ws) s x.data.toList : Nat), .int .i64 0]) ∧
      w'.ownsRow w.heap.size 3 1 u (emsN (nxN ws) (emI ws) s x.data.toList).length (ints (emsN (nxN ws) (emI ws) s x.data.toList)) ∧ Below w.heap.size w w' := by
  have hm := mach_of hA
  have HRd := hid (fun X h => preads_any q ws vS vN vE x X h (good_of hA))
  rw [hx] at HRd
  obtain ⟨_, _, hx6, hok⟩ := wordErr_zero.1 hx
  have HM := hid hm
  have HOk := hid hok
  obtain ⟨aS, cS, rfl, _⟩ := id hP.s
  obtain ⟨aN, cN, rfl, hcN, hcN2⟩ := hP.nx.slice
  obtain ⟨aE, cE, rfl, hcE, hcE2⟩ := hP.em.slice
  have HP := hid hP
  clear hP hA hx hok hm
  refine (callsIn_wide (n := 9)).1 ?_
  refine callsIn_of_wp_marks Try.func30 rfl trivial ?_ rfl
  simp only [Try.ntmps30, List.size_toArray, List.length_cons, List.length_nil, Nat.reduceAdd, Nat.reduceSub, Array.replicate_succ, Array.replicate_zero, List.push_toArray, List.append_toArray, List.nil_append, List.cons_append]
  obtain ⟨w0, hw0⟩ : ∃ w0, (w.alloc (.cells #[.int .i64 (q : Int), .slice aS (sizeW ws) cS, .slice aN (sizeW ws) cN, .slice aE (sizeW ws) cE] 36)).alloc (.cells #[.int .i64 (s : Int)] 3) = w0 := ⟨_, rfl⟩
  obtain ⟨hb0, p0, p1, p2, p3, c0⟩ : Below w.heap.size w w0 ∧ w0.cell? ⟨w.heap.size, 0, none⟩ = some (.int .i64 (q : Int)) ∧ w0.cell? ⟨w.heap.size, 1, none⟩ = some (.slice aS (sizeW ws) cS) ∧ w0.cell? ⟨w.heap.size, 2, none⟩ = some (.slice aN (sizeW ws) cN) ∧ w0.cell? ⟨w.heap.size, 3, none⟩ = some (.slice aE (sizeW ws) cE) ∧ Boxed w0 (w.heap.size + 1) 3 (.int .i64 (s : Int)) := by
    rw [← hw0]
    exact ⟨(bel_alloc _ _).alloc (by simp) _, by simp [go_sem], by simp [go_sem], by simp [go_sem], by simp [go_sem], by have := Boxed.new (w.alloc (.cells #[.int .i64 (q : Int), .slice aS (sizeW ws) cS, .slice aN (sizeW ws) cN, .slice aE (sizeW ws) cE] 36)) 3 (.int .i64 (s : Int)); rwa [World.size_alloc] at this⟩
  have HB0 := hid hb0
  gi_upto_region 6 with (refine ⟨trivial, ?_⟩; gi_at_call 52; refine (callsIn_wide.2 (HRd.out _ (HP.out.below HB0.out))).mono ?_; rintro e' w1 ⟨rfl, hb1⟩; have p0 := keeps hb1 p0; have p1 := keeps hb1 p1; have p2 := keeps hb1 p2; have p3 := keeps hb1 p3; have c1 := keeps hb1 c0.cell)
  have hBs : Boxed w1 (w.heap.size + 1) 3 (.int .i64 (s : Int)) := (hb1.block _ c0.lt).trans c0
  have HB1 := hid (bel_step HB0.out hb1)
  have hlt1 : w.heap.size + 2 ≤ w1.heap.size := by have := hBs.lt; omega
  clear hw0 c0 c1 hb1 hb0 HRd
  gi_upto_region 8 with fail
  obtain ⟨b, hb⟩ : ∃ b, w1.heap.size = b := ⟨_, rfl⟩
  obtain ⟨X2, hX2⟩ : ∃ X2, (w1.alloc (.cells #[.slice none 0 0] 41)).alloc (.cells #[.int .i64 0] 3) = X2 := ⟨_, rfl⟩
  have hbX : Below w1.heap.size w1 X2 := by rw [← hX2]; exact (bel_alloc _ _).alloc (by simp) _
  have hsX : X2.heap.size = b + 2 := by rw [← hX2, ← hb]; simp
  have hoX : Boxed X2 b 41 (.slice none 0 0) := by rw [← hX2, ← hb]; exact (Boxed.new w1 _ _).alloc _
  have hnX : Boxed X2 (b + 1) 3 (.int .i64 0) := by
    rw [← hX2, ← hb]
    have := Boxed.new (w1.alloc (.cells #[.slice none 0 0] 41)) 3 (.int .i64 0)
    rwa [World.size_alloc] at this
  have hsB : Boxed X2 (w.heap.size + 1) 3 (.int .i64 (s : Int)) := (hbX.block _ hBs.lt).trans hBs
  have p0 := keeps hbX p0
  have p1 := keeps hbX p1
  have p2 := keeps hbX p2
  have p3 := keeps hbX p3
  have cs := hsB.cell
  have HBX := hid (bel_step HB1.out hbX)
  rw [hX2, hb]
  rw [hb] at hlt1
  clear hX2 hbX hBs hb
  have HX := hid (And.intro hsX (And.intro hoX (And.intro hnX hsB)))
  clear hsX hoX hnX hsB
  gi_wp2_with (refine ⟨trivial, ?_⟩; gi_at_call 53; refine (callsIn_wide.2 (psteps_any _ _ _ _ _ _ _ _ _ _ _ _ _)).mono ?_; rintro e' w' ⟨rfl, rfl⟩)
  have hX3 : RunIn w b (w.heap.size + 1) #[.int .i64 (q : Int), .slice aS (sizeW ws) cS, .slice aN (sizeW ws) cN, .slice aE (sizeW ws) cE] x (nxN ws) (emI ws) s 0 0 (((X2.alloc (.cells #[.int .i64 (q : Int), .slice aS (sizeW ws) cS, .slice aN (sizeW ws) cN, .slice aE (sizeW ws) cE] 36)).alloc (.cells #[.int .i64 (s : Int)] 3)).alloc (.cells #[.string x] 9)) := by
    obtain ⟨hsX, hoX, hnX, hsB⟩ := HX.out
    refine ⟨((HBX.out.alloc HBX.out.size _).alloc (by have := HBX.out.size; simp; omega) _).alloc (by have := HBX.out.size; simp; omega) _, by simp [hsX], ⟨_, ((hoX.alloc _).alloc _).alloc _, World.ownsRow_nil _ _ _ _⟩, ((hnX.alloc _).alloc _).alloc _, ?_, ?_, ?_, ((hsB.alloc _).alloc _).alloc _⟩
    · rw [← hsX]
      exact (Below.heap_alloc _ _ _ (by simp; omega)).trans ((Below.heap_alloc _ _ _ (by simp)).trans (World.alloc_heap_new X2 _))
    · have h3 := Boxed.new (X2.alloc (.cells #[.int .i64 (q : Int), .slice aS (sizeW ws) cS, .slice aN (sizeW ws) cN, .slice aE (sizeW ws) cE] 36)) 3 (.int .i64 (s : Int))
      rw [World.size_alloc, hsX] at h3
      exact h3.alloc _
    · have h4 := Boxed.new ((X2.alloc (.cells #[.int .i64 (q : Int), .slice aS (sizeW ws) cS, .slice aN (sizeW ws) cN, .slice aE (sizeW ws) cE] 36)).alloc (.cells #[.int .i64 (s : Int)] 3)) 9 (.string x)
      rw [World.size_alloc, World.size_alloc, hsX] at h4
      exact h4
  have hs3 : (((X2.alloc (.cells #[.int .i64 (q : Int), .slice aS (sizeW ws) cS, .slice aN (sizeW ws) cN, .slice aE (sizeW ws) cE] 36)).alloc (.cells #[.int .i64 (s : Int)] 3)).alloc (.cells #[.string x] 9)).heap.size = b + 5 := by simp [HX.out.1]
  rw [HX.out.1, show b + 2 + 2 = b + 4 from rfl, show b + 2 + 1 = b + 3 from rfl]
  generalize (((X2.alloc (.cells #[.int .i64 (q : Int), .slice aS (sizeW ws) cS, .slice aN (sizeW ws) cN, .slice aE (sizeW ws) cE] 36)).alloc (.cells #[.int .i64 (s : Int)] 3)).alloc (.cells #[.string x] 9)) = X3 at *
  have HX3 := hid hX3
  have HS3 := hid hs3
  have HPn := hid (HP.out.nat HM.out)
  clear hX3 hs3 p0 p1 p2 p3 cs HX HBX HB1 HB0 HP
  obtain ⟨i0, hi, hz0, hz1, hz2⟩ := info_parts Try.infoInt
  refine range_counted rfl (by decide) (gf := 70) (lb := #[.pointer (some ⟨b + 4, 0, none⟩), .pointer (some ⟨b + 2, 0, none⟩), .pointer (some ⟨b + 3, 0, none⟩)]) rfl trivial (enters_of Try.func70 (by kernel_rfl) rfl)
    x.size (encK (nxN ws) (emI ws) s x) (fun _ => rfl)
    (fun k W => RunIn w b (w.heap.size + 1) #[.int .i64 (q : Int), .slice aS (sizeW ws) cS, .slice aN (sizeW ws) cN, .slice aE (sizeW ws) cE] x (nxN ws) (emI ws) s k k W)
    (fun k W => RunIn w b (w.heap.size + 1) #[.int .i64 (q : Int), .slice aS (sizeW ws) cS, .slice aN (sizeW ws) cN, .slice aE (sizeW ws) cE] x (nxN ws) (emI ws) s k (k + 1) W)
    (fun W o h => h.alloc o) HX3.out
    (fun k W l o o' hl ho hc h => h.putObj (by omega) (by omega) o' (by rw [HS3.out] at hl; exact hl) ho hc)
    (fun k W l o o' hl ho hc h => h.putObj (by omega) (by omega) o' (by rw [HS3.out] at hl; exact hl) ho hc)
    ?seq
    (fun k => { tmps := #[.agg #[.int .i64 (q : Int), .slice aS (sizeW ws) cS, .slice aN (sizeW ws) cN, .slice aE (sizeW ws) cE], .int .i64 (s : Int), .string x, .pointer (some ⟨w.heap.size, 0, none⟩), .pointer (some ⟨w.heap.size + 1, 0, none⟩), undef, .slice none 0 0, .int .i64 0, .int .i64 0, .int .i64 0,
      .pointer (some ⟨b, 0, none⟩), .pointer (some ⟨b + 1, 0, none⟩), .int .i64 (eK (nxN ws) (emI ws) s x k), .int .i64 (sK (nxN ws) s x (k + 1) : Nat), .agg #[.int .i64 (q : Int), .slice aS (sizeW ws) cS, .slice aN (sizeW ws) cN, .slice aE (sizeW ws) cE], .string x, .int .i64 0, .int .i64 0, .bool false, undef,
      .int .i64 (s : Int), .bool (decide ((s : Int) < 0)), .bool (decide ((s : Int) < 0)), .int .i64 (s : Int), .pointer (some ⟨w.heap.size, 1, none⟩), .slice aS (sizeW ws) cS, .int .i64 (sizeW ws : Int), .bool false, .bool (decide ((s : Int) < 0)), .agg #[.int .i64 (q : Int), .slice aS (sizeW ws) cS, .slice aN (sizeW ws) cN, .slice aE (sizeW ws) cE], .int .i64 (s : Int), .string x,
      .func (.func 70) #[] #[.pointer (some ⟨b + 4, 0, none⟩), .pointer (some ⟨b + 2, 0, none⟩), .pointer (some ⟨b + 3, 0, none⟩)], .int .i64 (eK (nxN ws) (emI ws) s x k), .int .i64 (sK (nxN ws) s x (k + 1) : Nat), undef, undef, undef, undef, undef, undef, undef, undef, undef, undef, undef, undef, undef, undef, undef], defers := [] }) ?assign ?body ?done
  case seq =>
    intro l D r W hD hl hY hI hR
    refine (steps1_run l (b + 4) (b + 2) (b + 3) (sizeW ws) q s x aN aE cN cE (nxN ws) (emI ws) (fun k W => RunIn w b (w.heap.size + 1) #[.int .i64 (q : Int), .slice aS (sizeW ws) cS, .slice aN (sizeW ws) cN, .slice aE (sizeW ws) cE] x (nxN ws) (emI ws) s k k W ∧ RecAt l D r W) (fun k W => RunIn w b (w.heap.size + 1) #[.int .i64 (q : Int), .slice aS (sizeW ws) cS, .slice aN (sizeW ws) cN, .slice aE (sizeW ws) cE] x (nxN ws) (emI ws) s k (k + 1) W ∧ RecAt l D r W) W
      HOk.out HM.out.lt hs hn (by omega) hcN hcN2 hcE hcE2 ?_ ?_ (fun k W hk h => hY k W hk h.1 h.2) ⟨hI, hR⟩)
    · rintro k W ⟨h, _⟩
      have hp := HPn.out.below h.bel
      exact ⟨h.w.cell, by simp [World.cell?, h.p], by simp [World.cell?, h.p], h.si.cell, h.si.frozen, hp.nx, hp.em⟩
    · rintro k W hk ⟨h, hR⟩
      exact ⟨h.step (by omega) (by omega) _, hR.kept (KeepsOthers.setCell _ _ _)⟩
  case assign =>
    intro l k W K hK
    simp only [encK]
    gi_wp2
    exact hK
  case body =>
    intro l k W hk hM
    dsimp only
    obtain ⟨c, hcx⟩ := some_of_lt (l := x.data.toList) (k := k) (by rw [ba_len]; exact hk)
    obtain ⟨v, hv, hrow⟩ := hM.out
    have hc := hv.cell
    have cn := hM.n.cell
    have fn := hM.n.frozen
    have hsz := hM.size
    have hlen := emsN_len (nxN ws) (emI ws) s (x.data.toList.take k)
    rw [List.length_take] at hlen
    by_cases hE : 0 ≤ eK (nxN ws) (emI ws) s x k
    · have HPu := hid (fun v' w2 tmp h1 h2 => hM.push (tmp := tmp) (v' := v') (w2 := w2) (by omega) (by omega) hcx hE hv hrow h1 h2)
      clear hM hv
      generalize eK (nxN ws) (emI ws) s x k = E at *
      generalize emsN (nxN ws) (emI ws) s (x.data.toList.take k) = L at *
      gi_wp2_with (gi_at_builtin; refine wpListIn_append_own _ rfl _ _ 41 rfl (b + 5) 3 i0 (.int .i64 0) 1 8 Try.underlying41 hi hz0 hz1 hz2 rfl (by decide) _ _ _ rfl (hrow.alloc _) ⟨W.heap.size, 0, none⟩ 1 1 [.int .i64 E] rfl rfl (cell_one_new _ _ _) (by simp [Value.oneCell']) (by unfold maxLen; omega) (by omega) (by simp; omega) ?_; intro v' w2 hown' hgrow _; have HQ := hid (HPu.out v' w2 _ hown' hgrow); obtain ⟨g', cap', rfl⟩ := ownsRow_succ hown'; have q1 := HQ.out.b2; have q2 := HQ.out.f2; have q3 := HQ.out.n3; have q4 := HQ.out.g3; have q5 := HQ.out.s4; have q6 := HQ.out.h4)
      exact ⟨HQ.out.kept, HQ.out.next⟩
    · have HSk := hid (hM.skip (by omega) (by omega) hcx hE)
      have q5 := HSk.out.1
      have q6 := HSk.out.2.1
      clear hM hv
      generalize eK (nxN ws) (emI ws) s x k = E at *
      generalize sK (nxN ws) s x (k + 1) = S1 at *
      gi_wp2
      exact ⟨HSk.out.2.2.1, HSk.out.2.2.2⟩
  case done =>
    intro D W hD hI hK
    obtain ⟨v, hv, hrow⟩ := hI.out
    rw [HS3.out] at hD
    rw [take_all (l := x.data.toList) (k := x.size) (by rw [ba_len]; exact Nat.le_refl _)] at hrow
    have hsr : sK (nxN ws) s x x.size = runN (nxN ws) s x.data.toList := by unfold sK; rw [take_all (by rw [ba_len]; exact Nat.le_refl _)]
    have hc := hv.cell
    have cn := hI.n.cell
    have cs := hI.s.cell
    have hb := hI.bel
    rw [hsr] at cs
    clear hI hv hsr
    gi_wp2
    gi_quiet (fail)
    clear hc cn cs
    have hK2 : (W.drewN nq).heap[D]? = some (.deferred (some [])) := hK
    have hb2 := below_drewN hb nq
    have hrow2 := own_drewN hrow nq
    gi_wp2
    refine ⟨by simp, .inl ⟨_, _, rfl, run_takeDeferred hK2, ?_⟩⟩
    refine ⟨.tuple #[v, .int .i64 (runN (nxN ws) s x.data.toList : Nat), .int .i64 0], ?_, v, rfl, ?_, ?_⟩
    · simp [results, Try.f30, go_sem]
    · exact own_base (ownsRow_putObj hrow2 _ hK2 rfl) (by omega)
    · exact hb2.trans ⟨rfl, rfl, rfl, by simp, fun g hg => World.putObj_heap_other (by omega)⟩
end Go.Proofs.Ytalklhjmnoodeaa
