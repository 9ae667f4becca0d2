/-
  reducer.not, and, xor.
  Maps from numbers to bools, and to numbers, that the call itself has made.
  Conditions: The code is well formed, and not longer than 100000. No condition: these are general lemmas.
-/
import Derived.Test.YtcdfghogmdhfcaaGreatDoorMg15
import Derived.Test.YtcdfghogmdhfcaaGreatDoorInsRed
namespace Go.Proofs.YtcdfghogmdhfcaaGreatDoor
open Go.RowKit
set_option linter.unusedVariables false

theorem RS.ins {w : World} {B RB MB N k : Nat} {c : List Ins} {x : Ins} {ac : Option Addr} {cc : Nat} (h : w.ownsRow B 47 3 (.slice ac c.length cc) c.length (icells c)) (hx : c[k]? = some x) :
    ∃ g, ac = some ⟨g, 0, none⟩ ∧ B ≤ g ∧ w.cell? ⟨g, k * 3, none⟩ = some (.int .i64 x.op) ∧ w.cell? ⟨g, k * 3 + 1, none⟩ = some (.int .i64 x.a) ∧ w.cell? ⟨g, k * 3 + 2, none⟩ = some (.int .i64 x.b) := by
  obtain ⟨b, o, e, h1, h2, h3⟩ := (Sl.of_owns h).ins hx
  rcases h.2 with ⟨h4, h5⟩ | ⟨g, cap', cur, h4, h5, _⟩
  · have := lt_of_some hx; omega
  · simp only [Value.slice.injEq] at h4
    obtain ⟨rfl, _, _⟩ := h4
    simp only [Option.some.injEq, Addr.mk.injEq, and_true] at e
    obtain ⟨rfl, rfl⟩ := e
    exact ⟨g, rfl, h5, by simpa using h1, by simpa using h2, by simpa using h3⟩

set_option maxRecDepth 100000 in
set_option maxHeartbeats 4000000 in
theorem not_any (B RB MB N : Nat) (c : List Ins) (a : Int) (w : World) (h : RS w B RB MB N c) (hi : CInv N c) (ha : -2 ≤ a) (ha2 : a < ((N + c.length : Nat) : Int)) (hN : N ≤ 24) (hc : c.length ≤ 100000) :
    Calls Tryz.prog 45 #[.pointer (some ⟨RB, 0, none⟩), .int .i64 a] w fun e w' => e = .returned (.int .i64 (notV N c a)) ∧ RS w' B RB MB N (notC N c a) ∧ Fr B RB MB w w' := by
  have HS := hid h
  have HI := hid hi
  clear h hi
  by_cases a2 : a = -2
  · subst a2
    go_enter Tryz.func45, Tryz.ntmps45
    go_wp2
    go_ret
    exact ⟨rfl, HS.out, Fr.refl _ _ _ _⟩
  by_cases a1 : a = -1
  · subst a1
    go_enter Tryz.func45, Tryz.ntmps45
    go_wp2
    go_ret
    exact ⟨rfl, HS.out, Fr.refl _ _ _ _⟩
  have e2 : (a == -2) = false := by simpa using a2
  have e1 : (a == -1) = false := by simpa using a1
  have ha0 : 0 ≤ a := by omega
  obtain ⟨ac, cc, c0, c1, c2, f1, h5, h6, hlt, hcc1, hcc2⟩ := HS.out.c
  have HPut := hid (fun X h => put_any B RB MB N c 5 a 0 X h ⟨by unfold Ok64; simp, by unfold Ok64; simp only; omega, by unfold Ok64; simp⟩ hN hc)
  by_cases hn : (N : Int) ≤ a
  · obtain ⟨x, hx⟩ := some_of_lt (l := c) (k := a.toNat - N) (by omega)
    obtain ⟨g, rfl, _, x0, x1, x2⟩ := RS.ins (N := N) (RB := RB) (MB := MB) h6 hx
    have hgd : c.getD (a - N).toNat default = x := by rw [List.getD_eq_getElem?_getD, show (a - (N : Int)).toNat = a.toNat - N by omega, hx]; rfl
    have hw1 : IntKind.i64.wrap (a - (N : Int)) = a - (N : Int) := IntWalk.i64_in _ (by omega)
    have hw2 : 0 ≤ a - (N : Int) := by omega
    have hw3 : a - (N : Int) < (c.length : Int) := by omega
    have hdn : decide ((N : Int) ≤ a) = true := by simpa using hn
    by_cases h5' : x.op = 5
    · have HV := hid (show notV N c a = x.a by rw [notV, if_neg a2, if_neg a1, hgd, if_pos ⟨hn, h5'⟩])
      have HC := hid (show notC N c a = c by rw [notC, if_neg a2, if_neg a1, hgd, if_pos ⟨hn, h5'⟩])
      rw [h5'] at x0
      clear hgd h5' hx h5 h6 a1 a2
      go_enter Tryz.func45, Tryz.ntmps45
      go_upto_region 5 with fail
      go_quiet (fail)
      have HQ := hid (show ∀ n, Below w.heap.size w (w.drewN n) from fun n => below_drewN (Below.refl _ _) n)
      go_upto_region 6 with fail
      rename Nat => nq
      obtain ⟨w2, hw2'⟩ : ∃ w2, w.drewN nq = w2 := ⟨_, rfl⟩
      have hb2 := HQ.out nq
      rw [hw2'] at hb2 ⊢
      have c0 := keeps hb2 c0
      have c1 := keeps hb2 c1
      have x0 := keeps hb2 x0
      have x1 := keeps hb2 x1
      clear hw2' HQ
      go_quiet (fail)
      clear hw1 hw2 hw3
      go_wp2
      go_ret
      exact ⟨ret_int HV.out.symm, by rw [HC.out]; exact HS.out.below (below_drewN hb2 _), Fr.of (below_drewN hb2 _)⟩
    · have hno : ¬ ((N : Int) ≤ a ∧ (c.getD (a - N).toNat default).op = 5) := fun h => h5' (by rw [← hgd]; exact h.2)
      have HV := hid (show notV N c a = putV N c ⟨5, a, 0⟩ by rw [notV, if_neg a2, if_neg a1, if_neg hno])
      have HC := hid (show notC N c a = putC c ⟨5, a, 0⟩ by rw [notC, if_neg a2, if_neg a1, if_neg hno])
      have e5 : (x.op == 5) = false := by simpa using h5'
      clear hgd h5' hx h5 h6 a1 a2 hno
      go_enter Tryz.func45, Tryz.ntmps45
      go_upto_region 5 with fail
      go_quiet (fail)
      clear hw1 hw2 hw3
      go_wp2_with (go_at_call 82; refine (HPut.out _ (by exact HS.out.below (below_drewN (Below.refl _ _) _))).mono ?_; rintro e w3 ⟨rfl, hR3, hF3⟩)
      go_ret
      exact ⟨ret_int HV.out.symm, by rw [HC.out]; exact hR3, (Fr.of (below_drewN (Below.refl _ _) _)).trans hF3⟩
  · have hno : ¬ ((N : Int) ≤ a ∧ (c.getD (a - N).toNat default).op = 5) := fun h => hn h.1
    have HV := hid (show notV N c a = putV N c ⟨5, a, 0⟩ by rw [notV, if_neg a2, if_neg a1, if_neg hno])
    have HC := hid (show notC N c a = putC c ⟨5, a, 0⟩ by rw [notC, if_neg a2, if_neg a1, if_neg hno])
    have hd : decide ((N : Int) ≤ a) = false := by simpa using hn
    clear h5 h6 a1 a2 hno
    go_enter Tryz.func45, Tryz.ntmps45
    go_upto_region 5 with fail
    go_quiet (fail)
    clear hd
    go_wp2_with (go_at_call 82; refine (HPut.out _ (by exact HS.out.below (below_drewN (Below.refl _ _) _))).mono ?_; rintro e w3 ⟨rfl, hR3, hF3⟩)
    go_ret
    exact ⟨ret_int HV.out.symm, by rw [HC.out]; exact hR3, (Fr.of (below_drewN (Below.refl _ _) _)).trans hF3⟩

set_option maxHeartbeats 2000000 in
theorem and_any (B RB MB N : Nat) (c : List Ins) (a b : Int) (w : World) (h : RS w B RB MB N c) (ha : -2 ≤ a) (hab : a ≤ b) (hb2 : b < ((N + c.length : Nat) : Int)) (hN : N ≤ 24) (hc : c.length ≤ 100000) :
    Calls Tryz.prog 46 #[.pointer (some ⟨RB, 0, none⟩), .int .i64 a, .int .i64 b] w fun e w' => e = .returned (.int .i64 (andV N c a b)) ∧ RS w' B RB MB N (andC N c a b) ∧ Fr B RB MB w w' := by
  have HS := hid h
  clear h
  have HPut := hid (fun X h => put_any B RB MB N c 3 a b X h ⟨by unfold Ok64; simp, by unfold Ok64; simp only; omega, by unfold Ok64; simp only; omega⟩ hN hc)
  by_cases a2 : a = -2
  · have HV := hid (show andV N c a b = -2 by rw [andV, if_pos (.inl a2), a2])
    have HC := hid (show andC N c a b = c by rw [andC, if_pos (.inl a2)])
    subst a2
    go_enter Tryz.func46, Tryz.ntmps46
    go_wp2
    go_ret
    exact ⟨ret_int HV.out.symm, by rw [HC.out]; exact HS.out, Fr.refl _ _ _ _⟩
  by_cases a0 : a = b
  · have HV := hid (show andV N c a b = a by rw [andV, if_pos (.inr a0)])
    have HC := hid (show andC N c a b = c by rw [andC, if_pos (.inr a0)])
    have e2 : (a == -2) = false := by simpa using a2
    have e0 : (a == b) = true := by simpa using a0
    clear a0 a2
    go_enter Tryz.func46, Tryz.ntmps46
    go_wp2
    go_ret
    exact ⟨ret_int HV.out.symm, by rw [HC.out]; exact HS.out, Fr.refl _ _ _ _⟩
  have e2 : (a == -2) = false := by simpa using a2
  have e0 : (a == b) = false := by simpa using a0
  have hor : ¬ (a = -2 ∨ a = b) := by omega
  by_cases a1 : a = -1
  · have HV := hid (show andV N c a b = b by rw [andV, if_neg hor, if_pos a1])
    have HC := hid (show andC N c a b = c by rw [andC, if_neg hor, if_pos a1])
    clear hor a2 a0
    have e1 : (a == -1) = true := by simpa using a1
    clear a1
    go_enter Tryz.func46, Tryz.ntmps46
    go_wp2
    go_ret
    exact ⟨ret_int HV.out.symm, by rw [HC.out]; exact HS.out, Fr.refl _ _ _ _⟩
  · have HV := hid (show andV N c a b = putV N c ⟨3, a, b⟩ by rw [andV, if_neg hor, if_neg a1])
    have HC := hid (show andC N c a b = putC c ⟨3, a, b⟩ by rw [andC, if_neg hor, if_neg a1])
    have e1 : (a == -1) = false := by simpa using a1
    clear hor a2 a0 a1
    go_enter Tryz.func46, Tryz.ntmps46
    go_wp2_with (go_at_call 82; refine (HPut.out _ HS.out).mono ?_; rintro e w3 ⟨rfl, hR3, hF3⟩)
    go_ret
    exact ⟨ret_int HV.out.symm, by rw [HC.out]; exact hR3, hF3⟩

set_option maxHeartbeats 2000000 in
theorem xor_any (B RB MB N : Nat) (c : List Ins) (a b : Int) (w : World) (h : RS w B RB MB N c) (hi : CInv N c) (ha : -2 ≤ a) (hab : a ≤ b) (hb2 : b < ((N + c.length : Nat) : Int)) (hN : N ≤ 24) (hc : c.length ≤ 100000) :
    Calls Tryz.prog 47 #[.pointer (some ⟨RB, 0, none⟩), .int .i64 a, .int .i64 b] w fun e w' => e = .returned (.int .i64 (xorV N c a b)) ∧ RS w' B RB MB N (xorC N c a b) ∧ Fr B RB MB w w' := by
  have HS := hid h
  have HI := hid hi
  clear h hi
  have HPut := hid (fun X h => put_any B RB MB N c 4 a b X h ⟨by unfold Ok64; simp, by unfold Ok64; simp only; omega, by unfold Ok64; simp only; omega⟩ hN hc)
  have HNot := hid (fun X h => not_any B RB MB N c b X h HI.out (by omega) hb2 hN hc)
  by_cases a0 : a = b
  · have HV := hid (show xorV N c a b = -2 by rw [xorV, if_pos a0])
    have HC := hid (show xorC N c a b = c by rw [xorC, if_pos a0])
    have e0 : (a == b) = true := by simpa using a0
    clear a0
    go_enter Tryz.func47, Tryz.ntmps47
    go_wp2
    go_ret
    exact ⟨ret_int HV.out.symm, by rw [HC.out]; exact HS.out, Fr.refl _ _ _ _⟩
  have e0 : (a == b) = false := by simpa using a0
  by_cases a2 : a = -2
  · have HV := hid (show xorV N c a b = b by rw [xorV, if_neg a0, if_pos a2])
    have HC := hid (show xorC N c a b = c by rw [xorC, if_neg a0, if_pos a2])
    have e2 : (a == -2) = true := by simpa using a2
    clear a2 a0
    go_enter Tryz.func47, Tryz.ntmps47
    go_wp2
    go_ret
    exact ⟨ret_int HV.out.symm, by rw [HC.out]; exact HS.out, Fr.refl _ _ _ _⟩
  have e2 : (a == -2) = false := by simpa using a2
  by_cases a1 : a = -1
  · have HV := hid (show xorV N c a b = notV N c b by rw [xorV, if_neg a0, if_neg a2, if_pos a1])
    have HC := hid (show xorC N c a b = notC N c b by rw [xorC, if_neg a0, if_neg a2, if_pos a1])
    have e1 : (a == -1) = true := by simpa using a1
    clear a1 a2 a0
    go_enter Tryz.func47, Tryz.ntmps47
    go_wp2_with (go_at_call 45; refine (HNot.out _ HS.out).mono ?_; rintro e w3 ⟨rfl, hR3, hF3⟩)
    go_ret
    exact ⟨ret_int HV.out.symm, by rw [HC.out]; exact hR3, hF3⟩
  · have HV := hid (show xorV N c a b = putV N c ⟨4, a, b⟩ by rw [xorV, if_neg a0, if_neg a2, if_neg a1])
    have HC := hid (show xorC N c a b = putC c ⟨4, a, b⟩ by rw [xorC, if_neg a0, if_neg a2, if_neg a1])
    have e1 : (a == -1) = false := by simpa using a1
    clear a1 a2 a0
    go_enter Tryz.func47, Tryz.ntmps47
    go_wp2_with (go_at_call 82; refine (HPut.out _ HS.out).mono ?_; rintro e w3 ⟨rfl, hR3, hF3⟩)
    go_ret
    exact ⟨ret_int HV.out.symm, by rw [HC.out]; exact hR3, hF3⟩
end Go.Proofs.YtcdfghogmdhfcaaGreatDoor

namespace Go.Proofs.YtcdfghogmdhfcaaGreatDoor
open Go.RowKit
set_option linter.unusedVariables false

theorem Tryz.keyInt : Maps.Keyed Tryz.prog 3 := Maps.int_keyed Tryz.underlying3
theorem keyZ {s : Int} (h : Ok64 s) : keyOf Tryz.prog 3 (.int .i64 s) = some (.int .i64 s) := Maps.keyOf_int_mk Tryz.underlying3 (wf64 h)
/-- The block b is a map of at most n entries; it says f of each number. -/
def BZ (w : World) (b n : Nat) (f : Int → Bool) : Prop :=
  ∃ D : DataW Unit, w.ownsMap Tryz.prog 3 (plainElem Tryz.prog 4) b n D ∧ ∀ s : Int, D.atKey (.int .i64 s) (.lit (.bool false)) = .lit (.bool (f s))
theorem BZ.made (w : World) : BZ (w.alloc (.map #[] 0)) w.heap.size 0 (fun _ => false) := ⟨_, World.ownsMap_made w _ _ _, fun s => rfl⟩
theorem BZ.same {w w' : World} {b n : Nat} {f : Int → Bool} (h : BZ w b n f) (hh : w'.heap[b]? = w.heap[b]?) : BZ w' b n f := by
  obtain ⟨D, ⟨es, clock, hb, hF, hs, hD⟩, hf⟩ := h
  exact ⟨D, ⟨es, clock, hh.trans hb, hF, hs, hD⟩, hf⟩
theorem BZ.lt {w : World} {b n : Nat} {f : Int → Bool} (h : BZ w b n f) : b < w.heap.size := by
  obtain ⟨D, hD, _⟩ := h
  exact hD.lt
theorem BZ.below {w w' : World} {b n : Nat} {f : Int → Bool} (h : BZ w b n f) (hb : Below w.heap.size w w') : BZ w' b n f := h.same (hb.block b h.lt)
theorem BZ.congr {w : World} {b n : Nat} {f g : Int → Bool} (h : BZ w b n f) (he : ∀ s, f s = g s) : BZ w b n g := by
  obtain ⟨D, hD, hf⟩ := h
  exact ⟨D, hD, fun s => by rw [hf, he]⟩
theorem BZ.mono {w : World} {b n m : Nat} {f : Int → Bool} (h : BZ w b n f) (hm : n ≤ m) : BZ w b m f := by
  obtain ⟨D, ⟨es, clock, hb, hF, hs, hD⟩, hf⟩ := h
  exact ⟨D, ⟨es, clock, hb, hF, by omega, hD⟩, hf⟩
theorem BZ.look {w : World} {b n : Nat} {f : Int → Bool} (h : BZ w b n f) (s : Int) (hs : Ok64 s) : (Instr.lookup 101 (.map (some b)) (.int .i64 s) false).run Tryz.prog w = .ok (.bool (f s)) w := by
  obtain ⟨D, hD, hf⟩ := h
  obtain ⟨v, ps, hrun, hv⟩ := hD.lookup Tryz.keyInt Tryz.underlying101 (by exact Tryz.zeroValue4 w) (plainElem_bool Tryz.underlying4 false) (keyZ hs)
  rw [hf s] at hv
  have : v = .bool (f s) := by
    revert hv
    unfold plainElem
    rw [Tryz.underlying4]
    cases v <;> simp +contextual
  rw [hrun, this]
theorem BZ.store {w : World} {b n : Nat} {f : Int → Bool} (h : BZ w b n f) (hn : n < 1000000) (s : Int) (hs : Ok64 s) :
    ∃ w', (Instr.mapUpdate 101 (.map (some b)) (.int .i64 s) (.bool true)).run Tryz.prog w = .ok () w' ∧ BZ w' b (n + 1) (fun t => decide (t = s) || f t) ∧ w.grownBy w' (some b) := by
  obtain ⟨D, hD, hf⟩ := h
  obtain ⟨w', hrun, hown, hg⟩ := hD.update Tryz.keyInt Tryz.underlying101 (by unfold maxLen; omega) (keyZ hs) (plainElem_bool Tryz.underlying4 true)
  refine ⟨w', hrun, ⟨_, hown, fun t => ?_⟩, hg⟩
  by_cases ht : t = s
  · subst ht
    rw [Maps.atKey_put_same hD.isMap (show WideAt.IsKeyLit (.int .i64 t) from trivial)]; simp
  · rw [Maps.atKey_put_other (by simpa using ht), hf t]; simp [ht]
/-- .. to numbers, 0 where there is none. -/
def IZ (w : World) (b n : Nat) (f : Int → Int) : Prop :=
  ∃ D : DataW Unit, w.ownsMap Tryz.prog 3 (plainElem Tryz.prog 3) b n D ∧ ∀ s : Int, D.atKey (.int .i64 s) (.lit (.int .i64 0)) = .lit (.int .i64 (f s))
theorem IZ.made (w : World) : IZ (w.alloc (.map #[] 0)) w.heap.size 0 (fun _ => 0) := ⟨_, World.ownsMap_made w _ _ _, fun s => rfl⟩
theorem IZ.same {w w' : World} {b n : Nat} {f : Int → Int} (h : IZ w b n f) (hh : w'.heap[b]? = w.heap[b]?) : IZ w' b n f := by
  obtain ⟨D, ⟨es, clock, hb, hF, hs, hD⟩, hf⟩ := h
  exact ⟨D, ⟨es, clock, hh.trans hb, hF, hs, hD⟩, hf⟩
theorem IZ.lt {w : World} {b n : Nat} {f : Int → Int} (h : IZ w b n f) : b < w.heap.size := by
  obtain ⟨D, hD, _⟩ := h
  exact hD.lt
theorem IZ.below {w w' : World} {b n : Nat} {f : Int → Int} (h : IZ w b n f) (hb : Below w.heap.size w w') : IZ w' b n f := h.same (hb.block b h.lt)
theorem IZ.congr {w : World} {b n : Nat} {f g : Int → Int} (h : IZ w b n f) (he : ∀ s, f s = g s) : IZ w b n g := by
  obtain ⟨D, hD, hf⟩ := h
  exact ⟨D, hD, fun s => by rw [hf, he]⟩
theorem IZ.mono {w : World} {b n m : Nat} {f : Int → Int} (h : IZ w b n f) (hm : n ≤ m) : IZ w b m f := by
  obtain ⟨D, ⟨es, clock, hb, hF, hs, hD⟩, hf⟩ := h
  exact ⟨D, ⟨es, clock, hb, hF, by omega, hD⟩, hf⟩
theorem IZ.look {w : World} {b n : Nat} {f : Int → Int} (h : IZ w b n f) (s : Int) (hs : Ok64 s) : (Instr.lookup 102 (.map (some b)) (.int .i64 s) false).run Tryz.prog w = .ok (.int .i64 (f s)) w := by
  obtain ⟨D, hD, hf⟩ := h
  obtain ⟨v, ps, hrun, hv⟩ := hD.lookup Tryz.keyInt Tryz.underlying102 (by exact Tryz.zeroValue3 w) (plainElem_int Tryz.underlying3 (by decide)) (keyZ hs)
  rw [hf s] at hv
  obtain ⟨a, h1, h2, h3⟩ := plainElem_int_inv Tryz.underlying3 hv
  simp only [Prod.mk.injEq, DataW.lit.injEq, Lit.int.injEq, true_and] at h2
  rw [hrun, h1, h2.1]
theorem IZ.store {w : World} {b n : Nat} {f : Int → Int} (h : IZ w b n f) (hn : n < 1000000) (s c : Int) (hs : Ok64 s) (hc : Ok64 c) :
    ∃ w', (Instr.mapUpdate 102 (.map (some b)) (.int .i64 s) (.int .i64 c)).run Tryz.prog w = .ok () w' ∧ IZ w' b (n + 1) (fun t => if t = s then c else f t) ∧ w.grownBy w' (some b) := by
  obtain ⟨D, hD, hf⟩ := h
  obtain ⟨w', hrun, hown, hg⟩ := hD.update Tryz.keyInt Tryz.underlying102 (by unfold maxLen; omega) (keyZ hs) (plainElem_int Tryz.underlying3 (wf64 hc))
  refine ⟨w', hrun, ⟨_, hown, fun t => ?_⟩, hg⟩
  by_cases ht : t = s
  · subst ht
    rw [Maps.atKey_put_same hD.isMap (show WideAt.IsKeyLit (.int .i64 t) from trivial)]; simp
  · rw [Maps.atKey_put_other (by simpa using ht), hf t]; simp [ht]
end Go.Proofs.YtcdfghogmdhfcaaGreatDoor
