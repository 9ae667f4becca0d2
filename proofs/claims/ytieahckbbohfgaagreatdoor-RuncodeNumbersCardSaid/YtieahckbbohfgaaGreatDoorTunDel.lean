/-
  slices.Delete of one element of a row of words with probabilities.
  No condition beyond small sizes.
-/
import Derived.Test.YtieahckbbohfgaaGreatDoorTunExt
import Derived.Shelf.RegionOpen
import Derived.Shelf.RegionOpenPlain
import Derived.Lib.SliceRun
namespace Go.Proofs.YtieahckbbohfgaaGreatDoor
open Go.RowKit Go.Deep Go.Shelf
set_option linter.unusedVariables false

theorem setCells_other (w : World) (b k : Nat) (hk : k ≠ b) (vs : List Value) (o : Nat) : (w.setCells b o vs).heap[k]? = w.heap[k]? := by
  induction vs generalizing w o with
  | nil => rfl
  | cons v r ih => exact (ih (w.setCell ⟨b, o, none⟩ v) (o + 1)).trans (Below.heap_setCell _ _ _ _ (fun e => hk (by simp [e])))
theorem setCells_world (w : World) (b : Nat) (vs : List Value) (o : Nat) : (w.setCells b o vs).os = w.os ∧ (w.setCells b o vs).tape = w.tape ∧ (w.setCells b o vs).output = w.output ∧ (w.setCells b o vs).heap.size = w.heap.size := by
  induction vs generalizing w o with
  | nil => exact ⟨rfl, rfl, rfl, rfl⟩
  | cons v r ih =>
    obtain ⟨h1, h2, h3, h4⟩ := ih (w.setCell ⟨b, o, none⟩ v) (o + 1)
    exact ⟨h1, h2, h3, h4.trans (by simp)⟩
theorem setCells_row (w : World) (b : Nat) (T : TypeId) (fl : Nat × Nat) (vs : List Value) (o : Nat) (cur : Array Value) (h : w.heap[b]? = some (.cells cur T fl)) (ho : o + vs.length ≤ cur.size) :
    ∃ cur', (w.setCells b o vs).heap[b]? = some (.cells cur' T fl) ∧ cur'.size = cur.size ∧ cur'.toList.take (o + vs.length) = cur.toList.take o ++ vs := by
  induction vs generalizing w o cur with
  | nil => exact ⟨cur, h, rfl, by simp⟩
  | cons v r ih =>
    have ho' : o + (r.length + 1) ≤ cur.size := ho
    have h1 : (w.setCell ⟨b, o, none⟩ v).heap[b]? = some (.cells (cur.set! o v) T fl) := by simp [World.setCell, Array.getElem?_modify, h]
    obtain ⟨cur', h2, h3, h4⟩ := ih (w.setCell ⟨b, o, none⟩ v) (o + 1) (cur.set! o v) h1 (by simp; omega)
    refine ⟨cur', h2, by rw [h3]; simp, ?_⟩
    rw [show o + (v :: r).length = o + 1 + r.length by simp; omega, h4]
    have h5 : (cur.set! o v).toList.take (o + 1) = cur.toList.take o ++ [v] := by
      rw [Array.set!_eq_setIfInBounds, Array.toList_setIfInBounds]
      rw [List.take_set, List.take_succ_eq_append_getElem (by simp; omega)]
      rw [List.set_append_right _ _ (by simp; omega)]
      simp
      have : o - min o cur.size = 0 := by omega
      rw [this]; rfl
    rw [h5, List.append_assoc]
    rfl
def zeroL : List Value := [.string ⟨#[]⟩, .bool false, .string ⟨#[]⟩, .bool false, .string ⟨#[]⟩]
theorem zero_lk (w : World) : (zeroValue 89).run Tryz.prog w = .ok (.agg zeroL.toArray) w := by kernel_rfl
/-- One element is cleared. -/
theorem run_clear_lk (w : World) (ty : TypeId) (b o c : Nat) (hc : ∀ j, j < 5 → (w.cell? ⟨b, o + j, none⟩).isSome = true) (hf : ∀ j, j < 5 → w.frozen? ⟨b, o + j, none⟩ = false) :
    (Builtin.clear_ #[90] ty #[.slice (some ⟨b, o, none⟩) 1 c]).run Tryz.prog w = .ok (.tuple #[]) (w.setCells b o zeroL) := by
  have hzc : (Builtin.zeroCells (Value.cells (.agg #[.string ⟨#[]⟩, .bool false, .string ⟨#[]⟩, .bool false, .string ⟨#[]⟩])) 1).toList = zeroL := by kernel_rfl
  have hst := run_storeCells_cells (P := Tryz.prog) b o zeroL 0 w (by simpa [zeroL] using hc) (by simpa [zeroL] using hf) (by intro v hv'; simp [zeroL] at hv'; rcases hv' with rfl | rfl | rfl | rfl | rfl <;> rfl)
  simp only [Nat.add_zero] at hst
  simp [Builtin.clear_, run_underlying Tryz.underlying90, hzc, hst]
theorem lkcells_app (l r : List Lk) : lkcells (l ++ r) = lkcells l ++ lkcells r := by simp [lkcells]
theorem lkcells_one (l : List Lk) : ∀ u ∈ lkcells l, u.oneCell' = true := by
  intro u hu
  simp only [lkcells, List.mem_flatMap, Lk.enc] at hu
  obtain ⟨x, _, hx⟩ := hu
  simp only [List.mem_cons, List.not_mem_nil, or_false] at hx
  rcases hx with rfl | rfl | rfl | rfl | rfl <;> rfl
set_option maxRecDepth 100000 in
set_option maxHeartbeats 4000000 in
theorem delete_any (base g c i : Nat) (l : List Lk) (w : World) (h : w.ownsRow base 89 5 (.slice (some ⟨g, 0, none⟩) l.length c) l.length (lkcells l)) (hi : i < l.length) (hn : l.length ≤ 1000) :
    Calls Tryz.prog 60 #[.slice (some ⟨g, 0, none⟩) l.length c, .int .i64 (i : Int), .int .i64 ((i : Int) + 1)] w fun e w' => e = .returned (.slice (some ⟨g, 0, none⟩) (l.length - 1) c) ∧ w'.ownsRow base 89 5 (.slice (some ⟨g, 0, none⟩) (l.length - 1) c) (l.length - 1) (lkcells (l.eraseIdx i)) ∧ w.grownBy w' (some g) := by
  rcases h.2 with ⟨h0, _⟩ | ⟨g', cap, cur, hv, hg, hh, hc1, hc2, hc3, hc4⟩
  · cases h0
  simp only [Value.slice.injEq, Option.some.injEq, Addr.mk.injEq, true_and, and_true] at hv
  obtain ⟨rfl, rfl⟩ := hv
  obtain ⟨i0, hi0, hz0, hz1, hz2⟩ := info_parts Tryz.infoLk
  -- what is moved
  have hmv : (lkcells (l.drop (i + 1))).length = (l.length - (i + 1)) * 5 := by rw [lkcells_len, List.length_drop]
  have hsplit : lkcells l = lkcells (l.take (i + 1)) ++ lkcells (l.drop (i + 1)) := by rw [← lkcells_app, List.take_append_drop]
  have hcell : ∀ j, j < l.length * 5 → w.cell? ⟨g, j, none⟩ = (lkcells l)[j]? ∧ w.frozen? ⟨g, j, none⟩ = false := fun j hj => by
    refine ⟨?_, Lib.frozen_of_heap hh j⟩
    rw [Lib.cell_of_heap hh, ← hc4, List.getElem?_take, if_pos hj]
    simp
  have hsrc : Hid (∀ t u, (lkcells (l.drop (i + 1)))[t]? = some u → w.drew.cell? ((if c = i + 1 then (⟨g, 0, none⟩ : Addr) else ⟨g, (i + 1) * 5, none⟩).add t) = some u) := by
    intro t u hu
    have ht := lt_of_some hu
    rw [hmv] at ht
    rw [if_neg (by omega)]
    have e : (⟨g, (i + 1) * 5, none⟩ : Addr).add t = ⟨g, (i + 1) * 5 + t, none⟩ := by unfold Addr.add; split <;> simp_all
    rw [e]
    refine (hcell _ (by omega)).1.trans ?_
    rw [hsplit, List.getElem?_append_right (by rw [lkcells_len, List.length_take]; omega), lkcells_len, List.length_take, show (i + 1) * 5 + t - min (i + 1) l.length * 5 = t by rw [Nat.min_eq_left (by omega)]; omega]
    exact hu
  have hsp : Hid (∀ t, t < (lkcells (l.drop (i + 1))).length → (w.drew.cell? ⟨g, 0 + i * 5 + t, none⟩).isSome = true ∧ w.drew.frozen? ⟨g, 0 + i * 5 + t, none⟩ = false) := by
    intro t ht
    rw [hmv] at ht
    obtain ⟨h1, h2⟩ := hcell (0 + i * 5 + t) (by omega)
    refine ⟨?_, h2⟩
    have h3 : w.drew.cell? ⟨g, 0 + i * 5 + t, none⟩ = (lkcells l)[0 + i * 5 + t]? := h1
    rw [h3, List.getElem?_eq_getElem (by rw [lkcells_len]; omega)]
    rfl
  obtain ⟨cur1, k1, k2, k3⟩ := setCells_row w.drew g 89 (0, 0) (lkcells (l.drop (i + 1))) (0 + i * 5) cur hh (by rw [hmv]; omega)
  obtain ⟨W1, hW1⟩ : ∃ W1, W1 = w.drew.setCells g (0 + i * 5) (lkcells (l.drop (i + 1))) := ⟨_, rfl⟩
  rw [← hW1] at k1
  have hcl : ∀ ty, (Builtin.clear_ #[90] ty #[.slice (some ⟨g, (l.length - 1) * 5, none⟩) 1 (c - (l.length - 1))]).run Tryz.prog W1 = .ok (.tuple #[]) (W1.setCells g ((l.length - 1) * 5) zeroL) := fun ty => run_clear_lk W1 ty g ((l.length - 1) * 5) (c - (l.length - 1)) (fun j hj => by rw [Lib.cell_of_heap k1, Array.getElem?_eq_getElem (by omega)]; rfl) (fun j hj => Lib.frozen_of_heap k1 _)
  have HW1 := hid hW1
  have HK1 := hid k1
  have HK := hid (And.intro k2 k3)
  have HMv := hid hmv
  have HH := hid hh
  have HOne := hid (lkcells_one (l.drop (i + 1)))
  have HC := hid (And.intro hg (And.intro hc1 (And.intro hc2 (And.intro hc3 hc4))))
  have HTk := hid (show lkcells (l.eraseIdx i) = lkcells (l.take i) ++ lkcells (l.drop (i + 1)) ∧ (lkcells l).take (i * 5) = lkcells (l.take i) by
    refine ⟨by rw [← lkcells_app, List.eraseIdx_eq_take_drop_succ], ?_⟩
    have : lkcells l = lkcells (l.take i) ++ lkcells (l.drop i) := by rw [← lkcells_app, List.take_append_drop]
    rw [this, List.take_append_of_le_length (by rw [lkcells_len, List.length_take]; omega), List.take_of_length_le (by rw [lkcells_len, List.length_take]; omega)])
  clear hW1 k1 k2 k3 hmv hsplit hcell hh hc3 hc4 h hg
  generalize lkcells (l.drop (i + 1)) = news at *
  generalize hN : l.length = n at *
  have HN := hid hN
  clear hN
  have e1 : (i : Int) + 1 ≤ (n : Int) := by omega
  have e2 : (n : Int) ≤ (c : Int) := by omega
  have e3 : (0 : Int) ≤ (i : Int) := by omega
  have e4 : (i : Int) ≤ (i : Int) + 1 := by omega
  have e5 : (i : Int) + 1 ≤ (c : Int) := by omega
  have e6 : (i : Int) ≤ (c : Int) := by omega
  have e8 : (0 : Int) ≤ (i : Int) + 1 := by omega
  have e9 : i + 1 ≤ n := by omega
  have e10 : i ≤ c := by omega
  have e11 : i + 1 ≤ c := by omega
  have e12 : i ≤ n := by omega
  have e7 : ((i : Int) == (i : Int) + 1) = false := by rw [beq_eq_false_iff_ne]; omega
  have hc2 : c ≤ 9223372036854775807 := by unfold maxLen at hc2; omega
  obtain ⟨A, hA, HA⟩ : ∃ A : Addr, (if c = i + 1 then some (⟨g, 0, none⟩ : Addr) else some ⟨g, (i + 1) * 5, none⟩) = some A ∧ Hid (∀ t u, news[t]? = some u → w.drew.cell? (A.add t) = some u) := by
    refine ⟨if c = i + 1 then ⟨g, 0, none⟩ else ⟨g, (i + 1) * 5, none⟩, by split <;> rfl, hid hsrc.out⟩
  clear hsrc
  go_enter Tryz.func60, Tryz.ntmps60
  go_wp2_with fail
  go_region_law (refine step_append_room rfl (.tmp 22) (.tmp 25) 90 rfl 89 i0 5 Tryz.underlying90 hi0 hz1 g 0 i c (by simp [Act.eval, Act.put]) A (n - (i + 1)) (c - (i + 1)) news (by simp [Act.eval, Act.put]) HMv.out HA.out HOne.out (by omega) hsp.out ?_; rw [← HW1.out])
  have q1 : i + (n - (i + 1)) = n - 1 := by omega
  have q2 : n - (n - 1) = 1 := by omega
  have q3 : ¬ c = n - 1 := by omega
  have q4 : ((n - 1 : Nat) : Int) ≤ (n : Int) := by omega
  have q5 : n - 1 ≤ n := by omega
  have q6 : n - 1 ≤ c := by omega
  have q7 : (0 : Int) ≤ ((n - 1 : Nat) : Int) := by omega
  generalize hm : n - 1 = m at *
  go_wp2
  go_ret
  obtain ⟨hg, hc1, _, hc3, hc4⟩ := HC.out
  obtain ⟨k2, k3⟩ := HK.out
  have hnl := HMv.out
  obtain ⟨cur2, j1, j2, j3⟩ := setCells_row W1 g 89 (0, 0) zeroL (m * 5) cur1 HK1.out (by simp [zeroL]; omega)
  refine ⟨by rw [hm]; rfl, ?_, ?_⟩
  · rw [hm]
    refine ⟨?_, .inr ⟨g, c, cur2, rfl, hg, j1, by omega, by unfold maxLen; omega, by rw [j2, k2]; exact hc3, ?_⟩⟩
    · rw [HTk.out.1, List.length_append, lkcells_len, List.length_take, HN.out, hnl, Nat.min_eq_left (by omega)]
      omega
    · have h1 : cur2.toList.take (m * 5) = cur1.toList.take (m * 5) := by
        have := congrArg (fun x => x.take (m * 5)) j3
        simp only [List.take_take] at this
        rw [Nat.min_eq_left (by omega), List.take_append_of_le_length (by simp; omega), List.take_take, Nat.min_self] at this
        exact this
      rw [h1, HTk.out.1, ← HTk.out.2]
      rw [hnl] at k3
      rw [show m * 5 = 0 + i * 5 + (n - (i + 1)) * 5 by omega, k3, Nat.zero_add, ← hc4, List.take_take, Nat.min_eq_left (by omega)]
  · obtain ⟨o1, o2, o3, o4⟩ := setCells_world W1 g zeroL (m * 5)
    rw [HW1.out] at o1 o2 o3 o4
    obtain ⟨p1, p2, p3, p4⟩ := setCells_world w.drew g news (0 + i * 5)
    refine ⟨by rw [HW1.out]; exact o1.trans p1, by rw [HW1.out]; exact o2.trans p2, by rw [HW1.out]; exact o3.trans p3, by rw [HW1.out]; rw [o4, p4]; exact Nat.le_refl _, fun k hk hne => ?_⟩
    have hkg : k ≠ g := fun e => hne (by rw [e])
    rw [setCells_other _ _ _ hkg, HW1.out, setCells_other _ _ _ hkg]
    rfl
end Go.Proofs.YtieahckbbohfgaaGreatDoor
