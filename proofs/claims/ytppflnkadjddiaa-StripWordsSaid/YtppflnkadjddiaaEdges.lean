/-
  Edges and how they are compared: cmp.Compare and slices.Compare at ints; the reference's Compare, Has and index.
  Edges: their list of numbers, and the comparison of two edges by it.
  Rows of edges: their cells; a valid graph; graph.Check says so.
  Conditions: No condition. No condition. No condition.
-/
import Derived.Test.YtppflnkadjddiaaRefReads
import Derived.Sort.Grow
import Derived.Deep.RegionLaw
import Derived.Test.YtppflnkadjddiaaLibTwo
namespace Go.Proofs.Ytppflnkadjddiaa
open Go.RowKit Go.Sort
set_option linter.unusedVariables false

/-- How two integers stand to each other. -/
def cmpZ (a b : Int) : Int := if a < b then -1 else if b < a then 1 else 0
theorem cmpZ_lt {a b : Int} (h : a < b) : cmpZ a b = -1 := by rw [cmpZ, if_pos h]
theorem cmpZ_gt {a b : Int} (h : b < a) : cmpZ a b = 1 := by rw [cmpZ, if_neg (by omega), if_pos h]
theorem cmpZ_self (a : Int) : cmpZ a a = 0 := by simp [cmpZ]
theorem cmpZ_zero {a b : Int} : cmpZ a b = 0 ↔ a = b := by unfold cmpZ; split <;> (try split) <;> simp <;> omega
/-- How two lists stand to each other. -/
def cmpL : List Int → List Int → Int
  | [], [] => 0
  | [], _ :: _ => -1
  | _ :: _, [] => 1
  | a :: l, b :: r => if cmpZ a b = 0 then cmpL l r else cmpZ a b

set_option maxHeartbeats 400000 in
theorem isNaN_any (a : Int) (w : World) : Calls Try.prog 119 #[.int .i64 a] w fun e w' => e = .returned (.bool false) ∧ w = w' := by
  have hb : (a != a) = false := by simp
  go_enter Try.func119, Try.ntmps119
  go_wp2
  go_ret
  exact ⟨rfl, rfl⟩

set_option maxHeartbeats 400000 in
theorem cmpZ_any (a b : Int) (w : World) : Calls Try.prog 104 #[.int .i64 a, .int .i64 b] w fun e w' => e = .returned (.int .i64 (cmpZ a b)) ∧ w = w' := by
  by_cases h : a < b
  · rw [cmpZ_lt h]
    go_enter Try.func104, Try.ntmps104
    go_wp2_with (go_at_call 119; refine (isNaN_any _ _).mono ?_; rintro e w' ⟨rfl, rfl⟩)
    go_ret
    exact ⟨rfl, rfl⟩
  · by_cases h2 : b < a
    · rw [cmpZ_gt h2]
      go_enter Try.func104, Try.ntmps104
      go_wp2_with (go_at_call 119; refine (isNaN_any _ _).mono ?_; rintro e w' ⟨rfl, rfl⟩)
      go_ret
      exact ⟨rfl, rfl⟩
    · have e : a = b := by omega
      rw [cmpZ_zero.2 e]
      clear e
      go_enter Try.func104, Try.ntmps104
      go_wp2_with (go_at_call 119; refine (isNaN_any _ _).mono ?_; rintro e w' ⟨rfl, rfl⟩)
      go_ret
      exact ⟨rfl, rfl⟩

theorem cmpL_nil_right {l r : List Int} {k : Nat} (hk : k < l.length) (hr : r.length ≤ k) (h : cmpL l r = cmpL (l.drop k) (r.drop k)) : cmpL l r = 1 := by
  rw [h, drop_all hr, List.drop_eq_getElem_cons hk, cmpL]

set_option maxHeartbeats 1000000 in
theorem compare_any (v1 v2 : Value) (l r : List Int) (w : World) (h1 : Sl 1 w v1 l.length (ints l)) (h2 : Sl 1 w v2 r.length (ints r)) :
    Calls Try.prog 90 #[v1, v2] w fun e w' => e = .returned (.int .i64 (cmpL l r)) ∧ w = w' := by
  obtain ⟨ao, cap, rfl, _, _, hm1, _⟩ := id h1
  obtain ⟨ao', cap', rfl, _, _, hm2, _⟩ := id h2
  have H1 := hid h1
  have H2 := hid h2
  clear h1 h2
  go_enter Try.func90, Try.ntmps90
  go_wp2
  go_loop [11] (fun i => ∃ k : Nat, k ≤ l.length ∧ (k ≤ r.length) ∧ i = .int .i64 k ∧ Hid (cmpL l r = cmpL (l.drop k) (r.drop k))) (fun i => l.length - (intOf i).toNat)
  case atStart => exact ⟨0, by omega, by omega, rfl, hid rfl⟩
  case round =>
    obtain ⟨k, hk, hkr, rfl, HE⟩ := hrel
    by_cases hlt : k < l.length
    · obtain ⟨x, hx⟩ := some_of_lt hlt
      obtain ⟨b, o, rfl, c1⟩ := H1.out.cell (ints_get hx)
      have HX := hid hx
      clear hx
      by_cases hlr : k < r.length
      · obtain ⟨y, hy⟩ := some_of_lt hlr
        obtain ⟨b', o', rfl, c2⟩ := H2.out.cell (ints_get hy)
        have HY := hid hy
        clear hy
        by_cases hxy : x = y
        · have HC := hid (cmpZ_zero.2 hxy)
          have HN := hid (show cmpL l r = cmpL (l.drop (k + 1)) (r.drop (k + 1)) by rw [HE.out, drop_cons HX.out, drop_cons HY.out, cmpL, if_pos HC.out])
          clear hxy
          go_wp2_with (go_at_call 104; refine (cmpZ_any _ _ _).mono ?_; rintro e w' ⟨rfl, rfl⟩; rw [HC.out])
          go_round
          case rel => exact ⟨k + 1, by omega, by omega, by go_num, HN⟩
          case measure => simp [intOf]; omega
        · have hC : ¬ cmpZ x y = 0 := fun h => hxy (cmpZ_zero.1 h)
          have HN := hid (show cmpL l r = cmpZ x y by rw [HE.out, drop_cons HX.out, drop_cons HY.out, cmpL, if_neg hC])
          have hb : (cmpZ x y != 0) = true := by simp [hC]
          clear hxy hC
          have HA := hid (cmpZ_any x y)
          generalize cmpZ x y = C at *
          go_wp2_with (go_at_call 104; refine (HA.out _).mono ?_; rintro e w' ⟨rfl, rfl⟩)
          go_ret
          exact ⟨ret_int HN.out.symm, rfl⟩
      · have HN := hid (cmpL_nil_right hlt (by omega) HE.out)
        have hlr' : r.length ≤ k := by omega
        go_wp2
        go_ret
        exact ⟨ret_int HN.out.symm, rfl⟩
    · by_cases hlr : l.length < r.length
      · have HN := hid (show cmpL l r = -1 by rw [HE.out, drop_all (by omega), List.drop_eq_getElem_cons (by omega : k < r.length), cmpL])
        go_wp2
        go_ret
        exact ⟨ret_int HN.out.symm, rfl⟩
      · have HN := hid (show cmpL l r = 0 by rw [HE.out, drop_all (by omega), drop_all (by omega), cmpL])
        go_wp2
        go_ret
        exact ⟨ret_int HN.out.symm, rfl⟩
end Go.Proofs.Ytppflnkadjddiaa

namespace Go.Proofs.Ytppflnkadjddiaa
open Go.RowKit Go.Sort
set_option linter.unusedVariables false

/-- An edge: from, label, to. -/
structure Edge where
  f : Int
  l : Int
  t : Int
  deriving DecidableEq, Inhabited
def Edge.enc (x : Edge) : List Value := [.int .i64 x.f, .int .i64 x.l, .int .i64 x.t]
def Edge.nums (x : Edge) : List Int := [x.f, x.l, x.t]
def cmpE (x y : Edge) : Int := cmpL x.nums y.nums

/-- The world has grown behind, and drawn. -/
def Gr (w w' : World) : Prop := ∃ q os, w' = grow (w.drewN q) os
theorem Gr.refl (w : World) : Gr w w := ⟨0, #[], by rw [grow_empty]; rfl⟩
theorem Gr.trans {a b c : World} (h : Gr a b) (k : Gr b c) : Gr a c := by
  obtain ⟨q, os, rfl⟩ := h
  obtain ⟨q', os', rfl⟩ := k
  exact ⟨q + q', os ++ os', by show grow (grow ((a.drewN q).drewN q') os) os' = _; rw [grow_grow, drewN_drewN]⟩
theorem Gr.drewN {a b : World} (h : Gr a b) (n : Nat) : Gr a (b.drewN n) := h.trans ⟨n, #[], by rw [grow_empty]⟩
theorem Gr.drew {a b : World} (h : Gr a b) : Gr a b.drew := h.trans ⟨1, #[], by rw [grow_empty]; rfl⟩
theorem Gr.alloc {a b : World} (h : Gr a b) (o : Obj) : Gr a (b.alloc o) := h.trans ⟨0, #[o], by rw [alloc_eq_grow]; rfl⟩
theorem Gr.below {a b : World} (h : Gr a b) : Below a.heap.size a b := by
  obtain ⟨q, os, rfl⟩ := h
  refine ⟨rfl, rfl, rfl, ?_, fun k hk => ?_⟩
  · rw [size_grow]; exact Nat.le_add_right _ _
  · rw [heap_grow_old _ _ (by exact hk)]; rfl

set_option maxHeartbeats 400000 in
theorem list_any (x : Edge) (w : World) : Calls Try.prog 60 #[.agg #[.int .i64 x.f, .int .i64 x.l, .int .i64 x.t]] w fun e w' => ∃ v, e = .returned v ∧ Sl 1 w' v 3 (ints x.nums) ∧ Gr w w' := by
  go_enter Try.func60, Try.ntmps60
  go_wp2
  go_ret
  refine ⟨_, rfl, ⟨_, 3, rfl, rfl, Nat.le_refl _, by omega, .inr ⟨_, 0, rfl, ?_⟩⟩, ((Gr.refl _).alloc _).alloc _⟩
  intro j v hj
  have e : ∀ g : Nat, (⟨g, 0 + j, none⟩ : Addr) = (⟨g, 0, none⟩ : Addr).add j := fun g => by unfold Addr.add; split <;> simp_all
  rw [e]
  rw [show (⟨w.heap.size + 1, 0, none⟩ : Addr) = ⟨(w.alloc (.cells #[.int .i64 x.f, .int .i64 x.l, .int .i64 x.t] 64)).heap.size, 0, none⟩ by simp]
  exact cells_new (w.alloc (.cells #[.int .i64 x.f, .int .i64 x.l, .int .i64 x.t] 64)) #[.int .i64 x.f, .int .i64 x.l, .int .i64 x.t] 3 j v hj

set_option maxHeartbeats 400000 in
theorem by_any (w : World) : Calls Try.prog 59 #[.func (.func 60) #[] #[]] w fun e w' => e = .returned (.func (.func 89) #[] #[.pointer (some ⟨w.heap.size, 0, none⟩)]) ∧ w' = w.alloc (.cells #[.func (.func 60) #[] #[]] 98) := by
  go_enter Try.func59, Try.ntmps59
  go_wp2
  go_ret
  exact ⟨rfl, rfl⟩

set_option maxRecDepth 100000 in
set_option maxHeartbeats 2000000 in
theorem clos89_any (B : Nat) (x y : Edge) (w : World) (hc : w.cell? ⟨B, 0, none⟩ = some (.func (.func 60) #[] #[])) :
    Calls Try.prog 89 #[.agg #[.int .i64 x.f, .int .i64 x.l, .int .i64 x.t], .agg #[.int .i64 y.f, .int .i64 y.l, .int .i64 y.t], .pointer (some ⟨B, 0, none⟩)] w fun e w' => e = .returned (.int .i64 (cmpE x y)) ∧ Gr w w' := by
  have HL := hid list_any
  have HX := hid hc
  have hB := World.block_lt_of_cell? w _ hc
  clear hc
  go_enter Try.func89, Try.ntmps89
  go_upto_region 1 with fail
  have HBe := hid (((Gr.refl w).alloc (.cells #[.int .i64 x.f, .int .i64 x.l, .int .i64 x.t] 64)).alloc (.cells #[.int .i64 y.f, .int .i64 y.l, .int .i64 y.t] 64))
  obtain ⟨wq, hwq⟩ : ∃ wq, (w.alloc (.cells #[.int .i64 x.f, .int .i64 x.l, .int .i64 x.t] 64)).alloc (.cells #[.int .i64 y.f, .int .i64 y.l, .int .i64 y.t] 64) = wq := ⟨_, rfl⟩
  have c0 : wq.cell? ⟨w.heap.size, 0, none⟩ = some (.int .i64 x.f) := by rw [← hwq]; simp
  have c1 : wq.cell? ⟨w.heap.size, 1, none⟩ = some (.int .i64 x.l) := by rw [← hwq]; simp
  have c2 : wq.cell? ⟨w.heap.size, 2, none⟩ = some (.int .i64 x.t) := by rw [← hwq]; simp
  have c3 : wq.cell? ⟨w.heap.size + 1, 0, none⟩ = some (.int .i64 y.f) := by rw [← hwq]; simp
  have c4 : wq.cell? ⟨w.heap.size + 1, 1, none⟩ = some (.int .i64 y.l) := by rw [← hwq]; simp
  have c5 : wq.cell? ⟨w.heap.size + 1, 2, none⟩ = some (.int .i64 y.t) := by rw [← hwq]; simp
  have c6 : wq.cell? ⟨B, 0, none⟩ = some (.func (.func 60) #[] #[]) := by rw [hwq] at HBe; exact keeps HBe.out.below HX.out
  rw [hwq] at HBe ⊢
  clear hwq HX
  have hG := HBe.out
  clear HBe
  go_region_held3 (fun w' => w'.cell? ⟨w.heap.size, 0, none⟩ = some (.int .i64 x.f) ∧ w'.cell? ⟨w.heap.size, 1, none⟩ = some (.int .i64 x.l) ∧ w'.cell? ⟨w.heap.size, 2, none⟩ = some (.int .i64 x.t) ∧ w'.cell? ⟨w.heap.size + 1, 0, none⟩ = some (.int .i64 y.f) ∧ w'.cell? ⟨w.heap.size + 1, 1, none⟩ = some (.int .i64 y.l) ∧ w'.cell? ⟨w.heap.size + 1, 2, none⟩ = some (.int .i64 y.t) ∧ w'.cell? ⟨B, 0, none⟩ = some (.func (.func 60) #[] #[]))
    (first | exact ⟨c0, c1, c2, c3, c4, c5, c6⟩ | go_keep)
    (first
      | (go_at_call 60; refine (HL.out x _).mono ?_; rintro e w1 ⟨v1, rfl, hS1, hG1⟩; have hb1 := hG1.below; have c0 := keeps hb1 c0; have c1 := keeps hb1 c1; have c2 := keeps hb1 c2; have c3 := keeps hb1 c3; have c4 := keeps hb1 c4; have c5 := keeps hb1 c5; have c6 := keeps hb1 c6)
      | (go_at_call 60; refine (HL.out y _).mono ?_; rintro e w2 ⟨v2, rfl, hS2, hG2⟩; have hb2 := hG2.below; have c0 := keeps hb2 c0; have c1 := keeps hb2 c1; have c2 := keeps hb2 c2; have c3 := keeps hb2 c3; have c4 := keeps hb2 c4; have c5 := keeps hb2 c5; have c6 := keeps hb2 c6)
      | (go_at_call 90; refine (compare_any _ _ x.nums y.nums _ ?_ ?_).mono ?_; (first | exact hS1.below hb2 | exact hS1.below hb2.drewN); (exact hS2); rintro e w3 ⟨rfl, rfl⟩))
  clear hb1 hb2 c0 c1 c2 c3 c4 c5 c6
  go_wp2
  go_ret
  exact ⟨rfl, (hG.drew.trans hG1).trans hG2⟩
end Go.Proofs.Ytppflnkadjddiaa

namespace Go.Proofs.Ytppflnkadjddiaa
open Go.RowKit Go.Sort
set_option linter.unusedVariables false

def ecells (es : List Edge) : List Value := es.flatMap Edge.enc
theorem ecells_len (es : List Edge) : (ecells es).length = es.length * 3 := by
  induction es with
  | nil => rfl
  | cons x t ih => simp only [ecells, List.flatMap_cons, List.length_append] at *; rw [ih]; simp [Edge.enc]; omega
theorem ecells_snoc (es : List Edge) (x : Edge) : ecells (es ++ [x]) = ecells es ++ [.int .i64 x.f, .int .i64 x.l, .int .i64 x.t] := by
  simp [ecells, List.flatMap_append, Edge.enc]
theorem ecells_get {es : List Edge} {k : Nat} {x : Edge} (h : es[k]? = some x) : (ecells es)[k * 3]? = some (.int .i64 x.f) ∧ (ecells es)[k * 3 + 1]? = some (.int .i64 x.l) ∧ (ecells es)[k * 3 + 2]? = some (.int .i64 x.t) := by
  induction es generalizing k with
  | nil => simp at h
  | cons y t ih =>
    have hc : ecells (y :: t) = [.int .i64 y.f, .int .i64 y.l, .int .i64 y.t] ++ ecells t := by simp [ecells, Edge.enc]
    rw [hc]
    cases k with
    | zero => simp at h; subst h; simp
    | succ k =>
      simp only [List.getElem?_cons_succ] at h
      obtain ⟨h1, h2, h3⟩ := ih h
      refine ⟨?_, ?_, ?_⟩
      · rw [List.getElem?_append_right (by simp; omega)]; simp only [List.length_cons, List.length_nil]; rw [show (k + 1) * 3 - (0 + 1 + 1 + 1) = k * 3 by omega]; exact h1
      · rw [List.getElem?_append_right (by simp; omega)]; simp only [List.length_cons, List.length_nil]; rw [show (k + 1) * 3 + 1 - (0 + 1 + 1 + 1) = k * 3 + 1 by omega]; exact h2
      · rw [List.getElem?_append_right (by simp; omega)]; simp only [List.length_cons, List.length_nil]; rw [show (k + 1) * 3 + 2 - (0 + 1 + 1 + 1) = k * 3 + 2 by omega]; exact h3

/-- One edge of a row that is read. -/
theorem Sl.edge {w : World} {ao : Option Addr} {n cap m k : Nat} {es : List Edge} {x : Edge} (h : Sl 3 w (.slice ao n cap) m (ecells es)) (hk : es[k]? = some x) :
    ∃ b o, ao = some ⟨b, o, none⟩ ∧ w.cell? ⟨b, o + k * 3, none⟩ = some (.int .i64 x.f) ∧ w.cell? ⟨b, o + k * 3 + 1, none⟩ = some (.int .i64 x.l) ∧ w.cell? ⟨b, o + k * 3 + 2, none⟩ = some (.int .i64 x.t) := by
  obtain ⟨h1, h2, h3⟩ := ecells_get hk
  obtain ⟨b, o, rfl, c1⟩ := h.cell h1
  obtain ⟨b', o', e, c2⟩ := h.cell h2
  simp only [Option.some.injEq, Addr.mk.injEq, and_true] at e
  obtain ⟨rfl, rfl⟩ := e
  obtain ⟨b', o', e, c3⟩ := h.cell h3
  simp only [Option.some.injEq, Addr.mk.injEq, and_true] at e
  obtain ⟨rfl, rfl⟩ := e
  exact ⟨b, o, rfl, c1, c2, c3⟩

/-- A valid graph: its numbers' bounds; its edges lie in them, and ascend. -/
structure GFine (L S : Int) (es : List Edge) : Prop where
  l0 : 1 ≤ L
  l1 : L ≤ 256
  s0 : 0 ≤ S
  s1 : S ≤ 64
  len : es.length ≤ 1024
  mem : ∀ x ∈ es, 0 ≤ x.f ∧ x.f < S ∧ 0 ≤ x.t ∧ x.t < S ∧ 0 ≤ x.l ∧ x.l < L
  asc : ∀ k x y, es[k]? = some x → es[k + 1]? = some y → cmpE x y = -1

theorem run_min_int3 {P : Program} (w : World) (ts : Array TypeId) (t : TypeId) (a b c : Int) (ha : 0 ≤ a) (hb : 0 ≤ b) (hc : 0 ≤ c) : ∃ m : Int, 0 ≤ m ∧ ∀ w, (Builtin.min_ ts t #[.int .i64 a, .int .i64 b, .int .i64 c]).run P w = .ok (.int .i64 m) w := by
  refine ⟨if c < (if b < a then b else a) then c else (if b < a then b else a), by split <;> (try split) <;> omega, fun w => ?_⟩
  simp [Builtin.min_, Builtin.min2]

set_option maxRecDepth 100000 in
set_option maxHeartbeats 2000000 in
theorem gcheck_any (L S : Int) (v : Value) (es : List Edge) (w : World) (hF : GFine L S es) (hl : Sl 3 w v es.length (ecells es)) :
    Calls Try.prog 36 #[.agg #[.int .i64 L, .int .i64 S, v]] w fun e w' => e = .returned (.int .i64 0) ∧ Below w.heap.size w w' := by
  obtain ⟨ao, cap, rfl, _, hc1, hm1, _⟩ := id hl
  have HL := hid hl
  obtain ⟨l0, l1, s0, s1, len, hmem, hasc⟩ := hF
  have HM := hid hmem
  have HA := hid hasc
  have HB := hid by_any
  clear hl hmem hasc
  go_enter Try.func36, Try.ntmps36
  go_upto_region 8 with (go_at_call 59; refine (HB.out _).mono ?_; rintro e w1 ⟨rfl, hw1⟩)
  rw [← hw1]
  have b1 : Below w.heap.size w w1 := by rw [hw1]; exact ((Below.refl _ _).alloc (Nat.le_refl _) _).alloc (by simp) _
  have c0 : w1.cell? ⟨w.heap.size, 0, none⟩ = some (.int .i64 L) := by rw [hw1]; simp
  have c1 : w1.cell? ⟨w.heap.size, 1, none⟩ = some (.int .i64 S) := by rw [hw1]; simp
  have c2 : w1.cell? ⟨w.heap.size, 2, none⟩ = some (.slice ao es.length cap) := by rw [hw1]; simp
  have c3 : w1.cell? ⟨w.heap.size + 1, 0, none⟩ = some (.func (.func 60) #[] #[]) := by rw [hw1]; simp
  have HL1 := hid (HL.out.below b1)
  have HB1 := hid b1
  clear hw1 b1 HL HB
  go_wp2_with fail
  go_loopw [33] (fun i wr => ∃ k : Nat, k ≤ es.length ∧ i = .int .i64 k ∧ Below w1.heap.size w1 wr) (fun i _ => es.length - (intOf i).toNat)
  case atStart => exact ⟨0, by omega, rfl, Below.refl _ _⟩
  case round =>
    obtain ⟨k, hk, rfl, hbel⟩ := hrel
    have d0 := keeps hbel c0
    have d1 := keeps hbel c1
    have d2 := keeps hbel c2
    have d3 := keeps hbel c3
    have HBel := hid hbel
    have C0 := hid (And.intro c0 (And.intro c1 (And.intro c2 c3)))
    clear c0 c1 c2 c3
    by_cases hlt : k < es.length
    · obtain ⟨x, hx⟩ := some_of_lt hlt
      obtain ⟨b, o, rfl, e0, e1, e2⟩ := (HL1.out.below hbel).edge hx
      obtain ⟨f0, f1, t0, t1, x0, x1⟩ := HM.out x (List.mem_of_getElem? hx)
      obtain ⟨m, hm0, hm⟩ := run_min_int3 (P := Try.prog) w #[3, 3, 3] 3 x.f x.l x.t f0 x0 t0
      have hmx : ¬ S ≤ (if x.f < x.t then x.t else x.f) := by split <;> omega
      have HX := hid hx
      clear hx hbel
      go_upto_region 11 with fail
      obtain ⟨wx, hwx⟩ : ∃ wx, wr.alloc (.cells #[.int .i64 x.f, .int .i64 x.l, .int .i64 x.t] 64) = wx := ⟨_, rfl⟩
      have hbx : Below wr.heap.size wr wx := by rw [← hwx]; exact (Below.refl _ _).alloc (Nat.le_refl _) _
      have g0 := keeps hbx d0
      have g1 := keeps hbx d1
      have g2 := keeps hbx d2
      have g3 := keeps hbx d3
      have x0' : wx.cell? ⟨wr.heap.size, 0, none⟩ = some (.int .i64 x.f) := by rw [← hwx]; simp
      have x1' : wx.cell? ⟨wr.heap.size, 1, none⟩ = some (.int .i64 x.l) := by rw [← hwx]; simp
      have x2' : wx.cell? ⟨wr.heap.size, 2, none⟩ = some (.int .i64 x.t) := by rw [← hwx]; simp
      have HLx := hid ((HL1.out.below HBel.out).below hbx)
      have HBx := hid (bel_step HBel.out hbx)
      rw [hwx]
      clear hwx hbx d0 d1 d2 d3 e0 e1 e2
      go_upto_region 13 with fail
      clear g0 g1 hmx hm hm0 f0 f1 t0 t1 x0 x1 l0 l1 s0 s1
      by_cases hk0 : k = 0
      · subst hk0
        have h0 : decide (0 < (0 : Int)) = false := by decide
        go_quiet (fail)
        clear h0
        go_wp2
        go_roundw
        case rel => exact ⟨1, by omega, rfl, below_drewN HBx.out _⟩
        case measure => simp [intOf]; omega
      · obtain ⟨y, hy⟩ := some_of_lt (l := es) (k := k - 1) (by omega)
        obtain ⟨b', o', hbo, y0, y1, y2⟩ := HLx.out.edge hy
        simp only [Option.some.injEq, Addr.mk.injEq, and_true] at hbo
        obtain ⟨rfl, rfl⟩ := hbo
        have HC := hid (HA.out (k - 1) y x hy (by rw [show k - 1 + 1 = k by omega]; exact HX.out))
        have hp : decide (0 < k) = true := by simp; omega
        have hpos : 0 < k := by omega
        have hkm : IntKind.i64.wrap ((k : Int) - 1) = (k : Int) - 1 := IntWalk.i64_in _ (by omega)
        have hk3 : (0 : Int) ≤ (k : Int) - 1 := by omega
        have hk4 : (k : Int) - 1 < (es.length : Int) := by omega
        have hk5 : ((k : Int) - 1).toNat = k - 1 := by omega
        have hk6 : (1 : Int) ≤ (k : Int) := by omega
        have HW := hid (clos89_any (w.heap.size + 1) y x)
        clear hy
        go_region_held3 (fun w' => w'.cell? ⟨w.heap.size, 2, none⟩ = some (.slice (some ⟨b, o, none⟩) es.length cap) ∧ w'.cell? ⟨b, o + (k - 1) * 3, none⟩ = some (.int .i64 y.f) ∧ w'.cell? ⟨b, o + (k - 1) * 3 + 1, none⟩ = some (.int .i64 y.l) ∧ w'.cell? ⟨b, o + (k - 1) * 3 + 2, none⟩ = some (.int .i64 y.t) ∧ w'.cell? ⟨wr.heap.size, 0, none⟩ = some (.int .i64 x.f) ∧ w'.cell? ⟨wr.heap.size, 1, none⟩ = some (.int .i64 x.l) ∧ w'.cell? ⟨wr.heap.size, 2, none⟩ = some (.int .i64 x.t))
          (first | exact ⟨g2, y0, y1, y2, x0', x1', x2'⟩ | go_keep)
          (first
            | (refine (HW.out _ (by first | exact g3 | exact (by simpa using g3))).mono ?_; rintro e w3 ⟨rfl, hG⟩; rw [HC.out]; have hb3 := hG.below; have g2 := keeps hb3 g2; have y0 := keeps hb3 y0; have y1 := keeps hb3 y1; have y2 := keeps hb3 y2; have x0' := keeps hb3 x0'; have x1' := keeps hb3 x1'; have x2' := keeps hb3 x2'))
        have HN := hid (bel_step HBx.out ((Gr.refl wx).drew.trans hG).below)
        clear hG hb3 g2 y0 y1 y2 x0' x1' x2' hkm hk3 hk4 hk5 hp
        go_wp2
        go_roundw
        case rel => exact ⟨k + 1, by omega, by go_num, HN.out⟩
        case measure => simp [intOf]; omega
    · go_wp2
      go_ret
      exact ⟨rfl, bel_step HB1.out HBel.out⟩
end Go.Proofs.Ytppflnkadjddiaa
