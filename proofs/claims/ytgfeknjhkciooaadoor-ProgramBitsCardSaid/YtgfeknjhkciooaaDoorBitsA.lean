/-
  The copies and the turned row that the law ProgramBits makes.
  No condition beyond small sizes.
-/
import Derived.Test.YtgfeknjhkciooaaDoorShelfU
import Derived.Test.YtgfeknjhkciooaaDoorPrPut
import Derived.Test.YtgfeknjhkciooaaDoorPrRun
import Derived.Test.YtgfeknjhkciooaaDoorLawBits
namespace Go.Proofs.YtgfeknjhkciooaaDoor
open Go.RowKit
set_option linter.unusedVariables false

theorem Tryd.infoInt8 : (Tryd.prog.info? 3).map (fun i => (i.zero, i.size, i.bytes)) = some (some (.int .i64 0), 1, 8) := by kernel_rfl
theorem icells_one (l : List Ins) : ∀ u ∈ icells l, u.oneCell' = true := by
  intro u hu
  simp only [icells, List.mem_flatMap, Ins.enc] at hu
  obtain ⟨x, _, hx⟩ := hu
  simp only [List.mem_cons, List.not_mem_nil, or_false] at hx
  rcases hx with rfl | rfl | rfl <;> rfl
theorem ints_one (l : List Int) : ∀ u ∈ ints l, u.oneCell' = true := by
  intro u hu
  simp only [ints, List.mem_map] at hu
  obtain ⟨x, _, rfl⟩ := hu
  rfl
set_option maxRecDepth 100000 in
set_option maxHeartbeats 1000000 in
theorem cloneIns_any (v : Value) (l : List Ins) (w : World) (hl : Sl 3 w v l.length (icells l)) (hn : l.length ≤ 1000000) :
    Calls Tryd.prog 21 #[v] w fun e w' => ∃ v', e = .returned v' ∧ w'.ownsRow w.heap.size 41 3 v' l.length (icells l) ∧ Below w.heap.size w w' := by
  obtain ⟨ao, cap, rfl, h1, h2, h3, h4⟩ := hl
  have hnil := Lib.run_eql_slice_nil (P := Tryd.prog) w 22 41 ao l.length cap 0 0 Tryd.underlying22
  cases ao with
  | none =>
    have hn0 : l.length = 0 := by
      rcases h4 with h | ⟨b, o, h, _⟩
      · exact h
      · cases h
    have hl0 : l = [] := List.length_eq_zero_iff.1 hn0
    subst hl0
    clear h4 h1 hn0
    rw [Option.isNone_none] at hnil
    simp only [List.length_nil] at hnil ⊢
    go_enter Tryd.func21, Tryd.ntmps21
    go_wp2
    go_ret
    exact ⟨_, rfl, World.ownsRow_nil _ _ _ _, Below.refl _ _⟩
  | some a =>
    rw [Option.isNone_some] at hnil
    have hnews : ∀ j u, (icells l)[j]? = some u → w.cell? (a.add j) = some u := fun j u hj => by
      rcases h4 with h | ⟨b, o, h, hc⟩
      · have := lt_of_some hj
        rw [icells_len] at this
        omega
      · cases h
        have e : (⟨b, o, none⟩ : Addr).add j = ⟨b, o + j, none⟩ := by unfold Addr.add; split <;> simp_all
        rw [e]
        exact hc j u hj
    have HN := hid hnews
    have HO1 := hid (icells_one l)
    have HLn := hid (icells_len l)
    clear hnews h4
    obtain ⟨i0, hi, hz0, hz1, hz2⟩ := info_parts Tryd.infoInstr
    go_enter Tryd.func21, Tryd.ntmps21
    go_wp2_with (at_builtin; refine wpList_append_own _ rfl _ _ 22 rfl w.heap.size 41 i0 (.agg #[.int .i64 0, .int .i64 0, .int .i64 0]) 3 24 Tryd.underlying22 hi hz0 hz1 hz2 rfl (by decide) _ 0 [] rfl (own_empty w 41 3) a l.length cap (icells l) rfl (by rw [HLn.out]) (fun j u hj => keeps (bel_alloc _ _) (HN.out j u hj)) HO1.out (by unfold maxLen; omega) (by omega) (by simp) ?_; intro v' w1 hown hg _)
    go_ret
    rw [Nat.zero_add, List.nil_append] at hown
    exact ⟨_, rfl, hown, ((Below.refl w.heap.size w).alloc (Nat.le_refl _) _).grown hg (by simp) (fun k hk => ((own_empty w 41 3).lt k hk).1)⟩
set_option maxRecDepth 100000 in
set_option maxHeartbeats 1000000 in
theorem cloneInt_any (v : Value) (l : List Int) (w : World) (hl : Sl 1 w v l.length (ints l)) (hn : l.length ≤ 1000000) :
    Calls Tryd.prog 22 #[v] w fun e w' => ∃ v', e = .returned v' ∧ w'.ownsRow w.heap.size 3 1 v' l.length (ints l) ∧ Below w.heap.size w w' := by
  obtain ⟨ao, cap, rfl, h1, h2, h3, h4⟩ := hl
  have hnil := Lib.run_eql_slice_nil (P := Tryd.prog) w 23 3 ao l.length cap 0 0 Tryd.underlying23
  cases ao with
  | none =>
    have hn0 : l.length = 0 := by
      rcases h4 with h | ⟨b, o, h, _⟩
      · exact h
      · cases h
    have hl0 : l = [] := List.length_eq_zero_iff.1 hn0
    subst hl0
    clear h4 h1 hn0
    rw [Option.isNone_none] at hnil
    simp only [List.length_nil] at hnil ⊢
    go_enter Tryd.func22, Tryd.ntmps22
    go_wp2
    go_ret
    exact ⟨_, rfl, World.ownsRow_nil _ _ _ _, Below.refl _ _⟩
  | some a =>
    rw [Option.isNone_some] at hnil
    have hnews : ∀ j u, (ints l)[j]? = some u → w.cell? (a.add j) = some u := fun j u hj => by
      rcases h4 with h | ⟨b, o, h, hc⟩
      · have := lt_of_some hj
        rw [ints_len] at this
        omega
      · cases h
        have e : (⟨b, o, none⟩ : Addr).add j = ⟨b, o + j, none⟩ := by unfold Addr.add; split <;> simp_all
        rw [e]
        exact hc j u hj
    have HN := hid hnews
    have HO1 := hid (ints_one l)
    have HLn := hid (ints_len l)
    clear hnews h4
    obtain ⟨i0, hi, hz0, hz1, hz2⟩ := info_parts Tryd.infoInt8
    go_enter Tryd.func22, Tryd.ntmps22
    go_wp2_with (at_builtin; refine wpList_append_own _ rfl _ _ 23 rfl w.heap.size 3 i0 (.int .i64 0) 1 8 Tryd.underlying23 hi hz0 hz1 hz2 rfl (by decide) _ 0 [] rfl (own_empty w 3 1) a l.length cap (ints l) rfl (by rw [HLn.out]; simp) (fun j u hj => keeps (bel_alloc _ _) (HN.out j u hj)) HO1.out (by unfold maxLen; omega) (by omega) (by simp) ?_; intro v' w1 hown hg _)
    go_ret
    rw [Nat.zero_add, List.nil_append] at hown
    exact ⟨_, rfl, hown, ((Below.refl w.heap.size w).alloc (Nat.le_refl _) _).grown hg (by simp) (fun k hk => ((own_empty w 3 1).lt k hk).1)⟩
theorem setCells_other (w : World) (b k : Nat) (hk : k ≠ b) (vs : List Value) (o : Nat) : (w.setCells b o vs).heap[k]? = w.heap[k]? := by
  induction vs generalizing w o with
  | nil => rfl
  | cons v r ih => exact (ih (w.setCell ⟨b, o, none⟩ v) (o + 1)).trans (Below.heap_setCell _ _ _ _ (fun e => hk (by simp [e])))
theorem setCells_world (w : World) (b : Nat) (vs : List Value) (o : Nat) : (w.setCells b o vs).os = w.os ∧ (w.setCells b o vs).tape = w.tape ∧ (w.setCells b o vs).output = w.output ∧ (w.setCells b o vs).heap.size = w.heap.size := by
  induction vs generalizing w o with
  | nil => exact ⟨rfl, rfl, rfl, rfl⟩
  | cons v r ih =>
    obtain ⟨h1, h2, h3, h4⟩ := ih (w.setCell ⟨b, o, none⟩ v) (o + 1)
    exact ⟨h1, h2, h3, h4.trans (by simp)⟩
theorem setCells_row (w : World) (b : Nat) (T : TypeId) (fl : Nat × Nat) (vs : List Value) (o : Nat) (cur : Array Value) (h : w.heap[b]? = some (.cells cur T fl)) (ho : o + vs.length ≤ cur.size) :
    ∃ cur', (w.setCells b o vs).heap[b]? = some (.cells cur' T fl) ∧ cur'.size = cur.size ∧ cur'.toList.take (o + vs.length) = cur.toList.take o ++ vs := by
  induction vs generalizing w o cur with
  | nil => exact ⟨cur, h, rfl, by simp⟩
  | cons v r ih =>
    have ho' : o + (r.length + 1) ≤ cur.size := ho
    have h1 : (w.setCell ⟨b, o, none⟩ v).heap[b]? = some (.cells (cur.set! o v) T fl) := by simp [World.setCell, Array.getElem?_modify, h]
    obtain ⟨cur', h2, h3, h4⟩ := ih (w.setCell ⟨b, o, none⟩ v) (o + 1) (cur.set! o v) h1 (by simp; omega)
    refine ⟨cur', h2, by rw [h3]; simp, ?_⟩
    rw [show o + (v :: r).length = o + 1 + r.length by simp; omega, h4]
    have h5 : (cur.set! o v).toList.take (o + 1) = cur.toList.take o ++ [v] := by
      rw [Array.set!_eq_setIfInBounds, Array.toList_setIfInBounds]
      rw [List.take_set, List.take_succ_eq_append_getElem (by simp; omega)]
      rw [List.set_append_right _ _ (by simp; omega)]
      simp
      have : o - min o cur.size = 0 := by omega
      rw [this]; rfl
    rw [h5, List.append_assoc]
    rfl
theorem rev_any (base : Nat) (v : Value) (l : List Int) (w : World) (h : w.ownsRow base 3 1 v l.length (ints l)) (hl : l.length ≤ 1000000) :
    Calls Tryd.prog 23 #[v] w fun e w' => e = .returned (.tuple #[]) ∧ w'.ownsRow base 3 1 v l.length (ints l.reverse) ∧ w.grownBy w' v.ownBlock := by
  rcases h.2 with ⟨rfl, h0⟩ | ⟨g, cap, cur, rfl, hg, hh, hc1, hc2, hc3, hc4⟩
  · have hl0 : l = [] := List.length_eq_zero_iff.1 h0
    subst hl0
    refine (Tryd.slices_Reverse_int_empty none 0 w).mono ?_
    rintro e w' ⟨rfl, rfl⟩
    exact ⟨rfl, h, ⟨rfl, rfl, rfl, Nat.le_refl _, fun _ _ _ => rfl⟩⟩
  · have hcell : ∀ j, j < l.length → w.cell? ⟨g, 0 + j, none⟩ = some (.int .i64 (l.getD j 0)) := fun j hj => by
      obtain ⟨x, hx⟩ := some_of_lt hj
      obtain ⟨b', o', e, hc'⟩ := (Sl.of_owns h).cell (ints_get hx)
      simp only [Option.some.injEq, Addr.mk.injEq, and_true] at e
      obtain ⟨rfl, rfl⟩ := e
      rw [hc', List.getD_eq_getElem?_getD, hx]; rfl
    refine (Tryd.slices_Reverse_int_cells g 0 l.length cap l w (Nat.le_refl _) (by omega) hcell (fun j hj => Lib.frozen_of_heap hh (0 + j))).mono ?_
    rintro e w' ⟨rfl, q, rfl⟩
    refine ⟨rfl, ?_, ?_⟩
    · rw [List.take_of_length_le (Nat.le_refl _)]
      have hlen : (l.reverse.map (Value.int .i64)).length = l.length := by simp
      obtain ⟨cur', k1, k2, k3⟩ := setCells_row (w.drewN q) g 3 (0, 0) (l.reverse.map (Value.int .i64)) 0 cur hh (by rw [hlen]; omega)
      refine ⟨by simp [ints], .inr ⟨g, cap, cur', rfl, hg, k1, hc1, hc2, by rw [k2]; exact hc3, ?_⟩⟩
      rw [hlen, Nat.zero_add] at k3
      rw [Nat.mul_one, k3]
      simp [ints]
    · obtain ⟨k1, k2, k3, k4⟩ := setCells_world (w.drewN q) g ((l.take l.length).reverse.map (Value.int .i64)) 0
      refine ⟨k1, k2, k3, by rw [k4]; exact Nat.le_refl _, fun k _ hne => setCells_other _ _ _ (fun e => hne (by rw [e]; rfl)) _ _⟩
end Go.Proofs.YtgfeknjhkciooaaDoor
