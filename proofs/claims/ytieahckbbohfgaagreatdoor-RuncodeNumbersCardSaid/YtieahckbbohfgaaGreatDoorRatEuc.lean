/-
  integer.euclid's iterator at numbers of one digit.
  The numbers are less than 2^32.
-/
import Derived.Test.YtieahckbbohfgaaGreatDoorRatDiv
import Derived.Test.YtieahckbbohfgaaGreatDoorEucLaw
import Derived.Test.YtieahckbbohfgaaGreatDoorRangeE
import Derived.RangeFuncNested
import Derived.RangeFuncBound
import Derived.RangeFuncLeaves
import Derived.Shelf.Abstract
import Derived.Shelf.RegionOpen
import Derived.OwnWalkIn
import Derived.TacticsInMore
import Derived.LoopNIn
import Derived.LoopIn
import Derived.Sort.QuietIn
import Derived.Sort.CutIn
import Derived.Sort.LoopGhostIn
namespace Go.Proofs.YtieahckbbohfgaaGreatDoor
open Go.RowKit Go.Deep Go.Shelf
attribute [local go_sem] Oper.semAt_some
set_option linter.unusedVariables false

theorem nt_slice {w : World} {v : Value} {n : Nat} (h : Nt w v n) : ∃ ao l c, v = .slice ao l c := by
  obtain ⟨ao, cap, rfl, _⟩ := h
  exact ⟨ao, _, cap, rfl⟩
theorem nt_cells {w w' : World} {v : Value} {n : Nat} (h : Nt w v n) (hc : ∀ (a : Addr) (x : Int), w.cell? a = some (.int .u32 x) → w'.cell? a = some (.int .u32 x)) : Nt w' v n := by
  obtain ⟨ao, cap, rfl, h0, h1, h2, h3⟩ := h
  refine ⟨ao, cap, rfl, h0, h1, h2, ?_⟩
  rcases h3 with h3 | ⟨b, o, rfl, h3⟩
  · exact .inl h3
  · refine .inr ⟨b, o, rfl, fun j u hj => ?_⟩
    have h4 := h3 j u hj
    have : ∃ x, u = .int .u32 x := by
      have := List.mem_of_getElem? hj
      simp only [u32s, List.mem_map] at this
      obtain ⟨x, _, rfl⟩ := this
      exact ⟨x, rfl⟩
    obtain ⟨x, rfl⟩ := this
    exact hc _ x h4
/-- A store to a box that holds a slice. -/
theorem nt_setBox {w : World} {v : Value} {n g : Nat} {T : TypeId} {a : Option Addr} {l c : Nat} (h : Nt w v n) (hb : Boxed w g T (.slice a l c)) (u : Value) : Nt (w.setCell ⟨g, 0, none⟩ u) v n := by
  refine nt_cells h fun ad x hx => ?_
  by_cases hg : g = ad.block
  · exfalso
    obtain ⟨b, o, s⟩ := ad
    simp only at hg
    subst hg
    have hs : s = none := by simpa using World.cell?_spot hx
    subst hs
    rw [Lib.cell_of_heap hb] at hx
    cases o with
    | zero => cases hx
    | succ o => simp at hx
  · rw [World.cell?_setCell_far _ _ _ _ hg]; exact hx
theorem nt_putObj {w : World} {v : Value} {n l : Nat} {o : Obj} (o' : Obj) (h : Nt w v n) (ho : w.heap[l]? = some o) (hc : o.isCells = false) : Nt (w.putObj l o') v n := by
  refine nt_cells h fun ad x hx => ?_
  by_cases hg : l = ad.block
  · exfalso
    unfold World.cell? at hx
    rw [← hg, ho] at hx
    cases o with
    | cells cs T fz => cases hc
    | _ => simp at hx
  · unfold World.cell? at hx ⊢
    rw [World.putObj_heap_other (by omega)]; exact hx
theorem RecAt.below {l D : Nat} {r : Loop} {W W' : World} (h : RecAt l D r W) (hb : Below W.heap.size W W') : RecAt l D r W' :=
  ⟨(hb.block _ (Array.getElem?_eq_some_iff.1 h.lp).1).trans h.lp, (hb.block _ (Array.getElem?_eq_some_iff.1 h.df).1).trans h.df⟩
/-- While Euclid's algorithm runs: the boxes of the two numbers, the box of the last one. -/
structure Eu (w : World) (R L b : Nat) (p : Nat × Nat) (n : Nat) (W : World) : Prop where
  bel : Below w.heap.size w W
  size : b + 2 ≤ W.heap.size
  res : zeroI W R
  x : ∃ v, Boxed W b 162 v ∧ Nt W v p.1
  y : ∃ v, Boxed W (b + 1) 162 v ∧ Nt W v p.2
  last : ∃ v, Boxed W L 162 v ∧ Nt W v n
section
variable {w : World} {R L b : Nat} {p : Nat × Nat} {n : Nat} {W : World}
theorem Boxed.belowB {W W' : World} {B : Nat} {t : TypeId} {v : Value} (h : Boxed W B t v) (hb : Below W.heap.size W W') : Boxed W' B t v := (hb.block B h.lt).trans h
theorem Eu.below {W' : World} (h : Eu w R L b p n W) (hb : Below W.heap.size W W') : Eu w R L b p n W' := by
  obtain ⟨vx, x1, x2⟩ := h.x
  obtain ⟨vy, y1, y2⟩ := h.y
  obtain ⟨vl, l1, l2⟩ := h.last
  exact ⟨bel_step h.bel hb, Nat.le_trans h.size hb.size, h.res.below hb, ⟨vx, Boxed.belowB x1 hb, x2.below hb⟩, ⟨vy, Boxed.belowB y1 hb, y2.below hb⟩, ⟨vl, Boxed.belowB l1 hb, l2.below hb⟩⟩
theorem Eu.putObj (h : Eu w R L b p n W) (hL : L < b) (hR : R < b) (hw : w.heap.size ≤ b) {l : Nat} {o : Obj} (o' : Obj) (hl : b + 2 ≤ l) (ho : W.heap[l]? = some o) (hc : o.isCells = false) : Eu w R L b p n (W.putObj l o') := by
  obtain ⟨vx, x1, x2⟩ := h.x
  obtain ⟨vy, y1, y2⟩ := h.y
  obtain ⟨vl, l1, l2⟩ := h.last
  have e : ∀ g, g < b + 2 → (W.putObj l o').heap[g]? = W.heap[g]? := fun g hg => World.putObj_heap_other (by omega)
  exact ⟨h.bel.trans ⟨rfl, rfl, rfl, by simp, fun g hg => e g (by omega)⟩, by rw [World.putObj_size]; exact h.size, (e _ (by omega)).trans h.res, ⟨vx, (e _ (by omega)).trans x1, nt_putObj o' x2 ho hc⟩, ⟨vy, (e _ (by omega)).trans y1, nt_putObj o' y2 ho hc⟩, ⟨vl, (e _ (by omega)).trans l1, nt_putObj o' l2 ho hc⟩⟩
theorem boxed_far {W : World} {B g : Nat} {t : TypeId} {v : Value} (h : Boxed W B t v) (hne : B ≠ g) (u : Value) : Boxed (W.setCell ⟨g, 0, none⟩ u) B t v := (Below.heap_setCell _ _ _ B hne).trans h
/-- The last number is kept. -/
theorem Eu.keep (h : Eu w R L b p n W) (hL : L < b) (hR : R < L) (hw : w.heap.size ≤ R) {vx : Value} (hx : Boxed W b 162 vx) : Eu w R L b p p.1 (W.setCell ⟨L, 0, none⟩ vx) := by
  obtain ⟨vx', x1, x2⟩ := h.x
  obtain ⟨vy, y1, y2⟩ := h.y
  obtain ⟨vl, l1, l2⟩ := h.last
  have e : vx' = vx := by
    have h1 := x1.cell
    rw [hx.cell] at h1
    exact (Option.some.inj h1).symm
  subst e
  obtain ⟨al, ll, cl, rfl⟩ := nt_slice l2
  exact ⟨h.bel.setCell (p := ⟨L, 0, none⟩) (by show w.heap.size ≤ L; omega) _, by rw [World.size_setCell]; exact h.size, (Below.heap_setCell _ _ _ R (by show R ≠ L; omega)).trans h.res, ⟨vx', boxed_far x1 (by omega) _, nt_setBox x2 l1 _⟩, ⟨vy, boxed_far y1 (by omega) _, nt_setBox y2 l1 _⟩, ⟨vx', l1.set _, nt_setBox x2 l1 _⟩⟩
/-- The next pair. -/
theorem Eu.next (h : Eu w R L b p n W) (hL : L < b) (hR : R < L) (hw : w.heap.size ≤ R) {vy vr : Value} (hy : Boxed W (b + 1) 162 vy) {r : Nat} (hr : Nt W vr r) : Eu w R L b (p.2, r) n ((W.setCell ⟨b, 0, none⟩ vy).setCell ⟨b + 1, 0, none⟩ vr) := by
  obtain ⟨vx, x1, x2⟩ := h.x
  obtain ⟨vy', y1, y2⟩ := h.y
  obtain ⟨vl, l1, l2⟩ := h.last
  have e : vy' = vy := by
    have h1 := y1.cell
    rw [hy.cell] at h1
    exact (Option.some.inj h1).symm
  subst e
  obtain ⟨ax, lx, cx, rfl⟩ := nt_slice x2
  obtain ⟨ay, ly, cy, rfl⟩ := nt_slice y2
  have y1' := boxed_far y1 (g := b) (by omega) (.slice ay ly cy)
  exact ⟨(h.bel.setCell (p := ⟨b, 0, none⟩) (by show w.heap.size ≤ b; omega) _).setCell (p := ⟨b + 1, 0, none⟩) (by show w.heap.size ≤ b + 1; omega) _, by rw [World.size_setCell, World.size_setCell]; exact h.size,
    (Below.heap_setCell _ _ _ R (by show R ≠ b + 1; omega)).trans ((Below.heap_setCell _ _ _ R (by show R ≠ b; omega)).trans h.res),
    ⟨_, boxed_far (x1.set _) (by omega) _, nt_setBox (nt_setBox y2 x1 _) y1' _⟩, ⟨_, y1'.set _, nt_setBox (nt_setBox hr x1 _) y1' _⟩, ⟨vl, boxed_far (boxed_far l1 (by omega) _) (by omega) _, nt_setBox (nt_setBox l2 x1 _) y1' _⟩⟩
end
/-- After so many numbers that were handed on. -/
def EuI (w : World) (R L b a0 b0 : Nat) (k : Nat) (W : World) : Prop := Eu w R L b (eu a0 b0 (k - 1)) (if k = 0 then 0 else (eu a0 b0 (k - 1)).1) W
/-- Ahead of the number k. -/
def EuM (w : World) (R L b a0 b0 : Nat) (k : Nat) (enc : Array Value) (W : World) : Prop := ∃ vx vy n, enc = #[vx, vy] ∧ Boxed W b 162 vx ∧ Boxed W (b + 1) 162 vy ∧ Eu w R L b (eu a0 b0 k) n W
set_option maxRecDepth 100000 in
set_option maxHeartbeats 4000000 in
theorem euc_run (l D : Nat) (r : Loop) (w : World) (R L b a0 b0 m : Nat) (W : World) (hL : L < b) (hR : R < L) (hw : w.heap.size ≤ R) (hl : b + 2 ≤ l) (hD : b + 2 ≤ D) (ha : a0 < 4294967296) (hb : b0 < 4294967296) (hm1 : ∀ k, k < m → (eu a0 b0 k).2 ≠ 0) (hm2 : (eu a0 b0 m).2 = 0)
    (hY : ∀ k enc W, k < m + 1 → EuM w R L b a0 b0 k enc W → RecAt l D r W → YieldAt Fence.wide (8 - 1) Tryz.prog l enc W fun e W' => e = .returned (.bool true) ∧ EuI w R L b a0 b0 (k + 1) W' ∧ RecAt l D r W') (h0 : EuI w R L b a0 b0 0 W) (hR0 : RecAt l D r W) :
    CallsIn Fence.wide 8 Tryz.prog 171 #[.func (.yield l) #[] #[], .pointer (some ⟨b, 0, none⟩), .pointer (some ⟨b + 1, 0, none⟩)] W fun e' W' => (∃ v, e' = .returned v) ∧ EuI w R L b a0 b0 (m + 1) W' ∧ RecAt l D r W' := by
  have HY := hid hY
  have HM1 := hid hm1
  have HM2 := hid hm2
  have H0 := hid h0
  have HR0 := hid hR0
  clear hY hm1 hm2 h0 hR0
  refine callsIn_of_wp Tryz.func171 rfl trivial ?_ rfl
  simp only [Tryz.ntmps171, List.size_toArray, List.length_cons, List.length_nil, Nat.reduceAdd, Nat.reduceSub, Array.replicate_succ, Array.replicate_zero, List.push_toArray, List.append_toArray, List.nil_append, List.cons_append]
  gi_wp2
  gi_loopg [4] m (fun gk f wr => gk ≤ m ∧ Hid (∃ n, Eu w R L b (eu a0 b0 (m - gk)) n wr) ∧ Hid (RecAt l D r wr))
  case atStart => exact ⟨Nat.le_refl _, hid ⟨0, by have := H0.out; unfold EuI at this; simpa using this⟩, HR0⟩
  case round =>
    obtain ⟨hk, HE, HRc⟩ := hrel
    obtain ⟨n0, hE⟩ := HE.out
    obtain ⟨vx, bx, nx⟩ := hE.x
    obtain ⟨vy, by', ny⟩ := hE.y
    have HYk := hid (HY.out (m - gk) #[vx, vy] wr (by omega) ⟨vx, vy, n0, rfl, bx, by', hE⟩ HRc.out)
    have cx := bx.cell
    have cy := by'.cell
    obtain ⟨fn, tmps, assign, body, hy, hR⟩ := HYk.out
    have HRr := hid hR
    clear hR HYk bx by' nx ny hE
    gi_wp2
    refine HRr.out.mono ?_
    rintro e W3 ⟨rfl, hI3, hR3⟩
    have HI3 := hid hI3
    have HR3 := hid hR3
    clear cx cy hI3 hR3 hy HRr
    have hE3 : Eu w R L b (eu a0 b0 (m - gk)) (eu a0 b0 (m - gk)).1 W3 := by
      have := HI3.out
      unfold EuI at this
      rw [if_neg (by omega), Nat.add_sub_cancel] at this
      exact this
    obtain ⟨vx3, bx, nx⟩ := hE3.x
    obtain ⟨vy3, by', ny⟩ := hE3.y
    have HE3 := hid hE3
    clear hE3
    by_cases hg : gk = 0
    · subst hg
      rw [Nat.sub_zero, HM2.out] at ny
      obtain ⟨ay, cpy, rfl, _⟩ := nt_nil ny
      have cy := by'.cell
      clear ny nx bx by'
      gi_wp2
      go_end0
      exact ⟨⟨_, rfl⟩, HI3.out, HR3.out⟩
    · have hy0 := HM1.out (m - gk) (by omega)
      obtain ⟨hx4, hy4⟩ := eu_lt ha hb (m - gk)
      have hnx : eu a0 b0 (m - gk + 1) = ((eu a0 b0 (m - gk)).2, (eu a0 b0 (m - gk)).1 % (eu a0 b0 (m - gk)).2) := rfl
      have HNx := hid hnx
      clear hnx
      generalize eu a0 b0 (m - gk) = p at *
      obtain ⟨X, Y⟩ := p
      have HDv := hid (divide_small vx3 vy3 X Y W3 nx ny hx4 hy4 hy0)
      obtain ⟨ax, lx, cpx, rfl⟩ := nt_slice nx
      obtain ⟨b9, o9, c9, rfl, _, _, _⟩ := nt_one ny hy0 hy4
      have cx := bx.cell
      have cy := by'.cell
      clear nx ny
      gi_upto_region 2 with (refine ⟨trivial, ?_⟩; gi_at_call 165; refine (callsIn_wide.2 HDv.out).mono ?_; rintro e' W4 ⟨⟨vq, vr, rfl, hq, hr⟩, hb4⟩; have HB4 := hid hb4; have HVr := hid hr; have cx := keeps hb4 cx; have cy := keeps hb4 cy; have fx := (Boxed.belowB bx hb4).frozen; have fy := (Boxed.belowB by' hb4).frozen; obtain ⟨ar, lr, cr, rfl⟩ := nt_slice hr; clear hq hr hb4)
      have HEn := hid ((HE3.out.below HB4.out).next hL hR hw (Boxed.belowB by' HB4.out) HVr.out)
      have HRn := hid (((HR3.out.below HB4.out).kept (KeepsOthers.setCell _ _ _)).kept (KeepsOthers.setCell _ _ _) : RecAt l D r ((W4.setCell ⟨b, 0, none⟩ (.slice (some ⟨b9, o9, none⟩) 1 c9)).setCell ⟨b + 1, 0, none⟩ (.slice ar lr cr)))
      clear bx by'
      gi_wp2
      gi_roundg (gk - 1)
      case measure => omega
      case rel =>
        refine ⟨by omega, hid ⟨X, ?_⟩, HRn⟩
        rw [show m - (gk - 1) = m - gk + 1 by omega, HNx.out]
        exact HEn.out
end Go.Proofs.YtieahckbbohfgaaGreatDoor
