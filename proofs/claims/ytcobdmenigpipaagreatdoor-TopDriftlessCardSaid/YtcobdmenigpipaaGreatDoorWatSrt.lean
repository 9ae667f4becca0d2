/-
  slices.Sort at numbers that the call itself has made; plain laws of watermarks.
  No condition.
-/
import Derived.Test.YtcobdmenigpipaaGreatDoorWatMrk
import Derived.Test.YtcobdmenigpipaaGreatDoorGenM
import Derived.Sort.Grow
import Derived.Deep.Slices
namespace Go.Proofs.YtcobdmenigpipaaGreatDoor
open Go.RowKit Go.Deep Go.Sort
set_option linter.unusedVariables false
set_option linter.unusedSimpArgs false

def eI : Int → Value := Value.int .i64
theorem ints_eI (l : List Int) : ints l = l.map eI := rfl
theorem holdsI {w : World} {g : Nat} {cur : Array Value} {e : TypeId} {ss : List Int} (hb : w.heap[g]? = some (.cells cur e (0, 0))) (ht : cur.toList.take ss.length = ss.map eI) : Holds eI w g 0 ss.toArray := by
  intro j hj
  have hj' : j < ss.length := by simpa using hj
  refine ⟨?_, by simp [World.frozen?, hb]⟩
  have h1 : (cur.toList.take ss.length)[j]? = (ss.map eI)[j]? := by rw [ht]
  rw [List.getElem?_take_of_lt hj'] at h1
  simp only [World.cell?, hb, Nat.zero_add]
  simp only [Option.isSome_none, Bool.false_eq_true, if_false]
  rw [← Array.getElem?_toList, h1]
  simp [hj']
theorem heapI {w : World} {g n : Nat} {os : Array Obj} {cur : Array Value} {e : TypeId} {fr : Nat × Nat} (d : Array Int) (hb : w.heap[g]? = some (.cells cur e fr)) :
    (grow (putRow eI (Sort.ahead w n) g 0 d) os).heap[g]? = some (.cells (putCells eI 0 d cur) e fr) := by
  have hg : g < w.heap.size := (Array.getElem?_eq_some_iff.1 hb).1
  rw [heap_grow_old _ _ (by simpa using hg)]
  simp [putRow, mapBlock, Sort.ahead, Array.getElem?_modify, hb, onCells]
theorem grownI {w : World} {g n : Nat} {os : Array Obj} (d : Array Int) : w.grownBy (grow (putRow eI (Sort.ahead w n) g 0 d) os) (some g) := by
  refine ⟨rfl, rfl, rfl, by simp, fun k hk hne => ?_⟩
  rw [heap_grow_old _ _ (by simpa using hk)]
  have : g ≠ k := fun e => hne (by rw [e])
  simp [putRow, mapBlock, Sort.ahead, Array.getElem?_modify, this]
theorem takeI (cur : Array Value) (ts : List Int) (h : ts.length ≤ cur.size) : (putCells eI 0 ts.toArray cur).toList.take ts.length = ts.map eI := by
  apply List.ext_getElem?
  intro j
  by_cases hj : j < ts.length
  · rw [List.getElem?_take_of_lt hj, Array.getElem?_toList]
    simp [putCells, hj, show j < cur.size by omega]
  · rw [List.getElem?_take_eq_none (by omega), List.getElem?_eq_none (by simp; omega)]
def srt (l : List Int) : List Int := l.mergeSort fun x y => decide (x ≤ y)
theorem srt_perm (l : List Int) : (srt l).Perm l := List.mergeSort_perm _ _
theorem srt_len (l : List Int) : (srt l).length = l.length := (srt_perm l).length_eq
theorem srt_asc {l : List Int} (h : l.Nodup) : AscZ (srt l) := by
  have h1 : List.Pairwise (fun a b : Int => decide (a ≤ b) = true) (srt l) := List.pairwise_mergeSort (fun a b c h1 h2 => by simp at *; omega) (fun a b => by simp; omega) l
  have h2 : (srt l).Nodup := (srt_perm l).nodup_iff.2 h
  intro j x y hx hy
  obtain ⟨hj, rfl⟩ := List.getElem?_eq_some_iff.1 hx
  obtain ⟨hj2, rfl⟩ := List.getElem?_eq_some_iff.1 hy
  have h3 := List.pairwise_iff_getElem.1 h1 j (j + 1) hj hj2 (Nat.lt_succ_self j)
  have h4 := List.pairwise_iff_getElem.1 h2 j (j + 1) hj hj2 (Nat.lt_succ_self j)
  simp only [decide_eq_true_eq] at h3
  have : (srt l)[j] ≠ (srt l)[j + 1] := h4
  omega
theorem sort_any (base : Nat) (v : Value) (l : List Int) (w : World) (ho : w.ownsRow base 3 1 v l.length (ints l)) (hl : l.length ≤ 1000000) :
    Calls Tryz.prog 6 #[v] w fun e w' => e = .returned (.tuple #[]) ∧ w'.ownsRow base 3 1 v l.length (ints (srt l)) ∧ w.grownBy w' v.ownBlock := by
  rcases ho.2 with ⟨hv, h0⟩ | ⟨g, cap, cur, hv, hbase, hb, h1, h2, h3, h4⟩
  · have hl0 : l = [] := List.length_eq_zero_iff.1 h0
    subst hl0
    have hc := AnyM.slices_Sort_int_none Tryz.sortm none 0 w
    change Calls Tryz.prog 6 _ _ _ at hc
    rw [hv]
    refine hc.mono ?_
    rintro e w' ⟨rfl, rfl⟩
    exact ⟨rfl, by rw [← hv, show srt [] = [] by simp [srt]]; exact ho, ⟨rfl, rfl, rfl, Nat.le_refl _, fun _ _ _ => rfl⟩⟩
  · have hH : Holds eI w g 0 l.toArray := holdsI hb (by rw [Nat.mul_one] at h4; exact h4)
    have hc := AnyM.slices_Sort_int Tryz.sortm g 0 cap l w hH (Array.getElem?_eq_some_iff.1 hb).1 (by omega)
    change Calls Tryz.prog 6 _ _ _ at hc
    rw [hv]
    refine hc.mono ?_
    rintro e w' ⟨rfl, n, os, rfl⟩
    refine ⟨rfl, ⟨by simp [ints, srt_len], .inr ⟨g, cap, _, rfl, hbase, heapI _ hb, h1, h2, by simp [putCells, h3], ?_⟩⟩, grownI _⟩
    have hs := srt_len l
    rw [Nat.mul_one, ← hs]
    exact takeI cur (srt l) (by omega)
theorem bin_ok {s : ByteArray} (h : BinW s) (hs : s.size ≤ 65536) : wordErr 2 s = 0 :=
  wordErr_zero.2 ⟨by decide, by decide, hs, by
    unfold okWord
    rw [List.all_eq_true]
    intro c hc
    rcases h c hc with rfl | rfl <;> decide⟩
theorem difW_bin (A W : List UInt8) : ∀ x ∈ difW A W, x = 48 ∨ x = 49 := by
  intro x hx
  obtain ⟨i, hi⟩ := List.getElem?_of_mem hx
  rw [difW, List.getElem?_zipWith] at hi
  split at hi
  · rename_i a b _ _
    cases hi
    rcases dif_two a b with h | h <;> rw [h]
    · exact .inl rfl
    · exact .inr rfl
  · cases hi
theorem dif_dif : ∀ (A W : List UInt8), A.length = W.length → (∀ x ∈ A, x = 48 ∨ x = 49) → (∀ x ∈ W, x = 48 ∨ x = 49) → difW A (difW A W) = W ∧ distL A (difW A W) = W.count 49
  | [], [], _, _, _ => ⟨rfl, rfl⟩
  | [], _ :: _, h, _, _ => by simp at h
  | _ :: _, [], h, _, _ => by simp at h
  | a :: A, x :: W, h, hA, hW => by
    obtain ⟨i1, i2⟩ := dif_dif A W (by simpa using h) (fun y hy => hA y (List.mem_cons_of_mem _ hy)) (fun y hy => hW y (List.mem_cons_of_mem _ hy))
    have e1 : difW (a :: A) (x :: W) = UInt8.ofNat (48 + dif8 a x) :: difW A W := rfl
    have e2 : ∀ y Y, difW (a :: A) (y :: Y) = UInt8.ofNat (48 + dif8 a y) :: difW A Y := fun _ _ => rfl
    have e3 : ∀ y Y, distL (a :: A) (y :: Y) = dif8 a y + distL A Y := fun _ _ => rfl
    rw [e1, e2, e3, i1, i2, List.count_cons]
    rcases hA a (List.mem_cons_self ..) with rfl | rfl <;> rcases hW x (List.mem_cons_self ..) with rfl | rfl
    · exact ⟨rfl, by rw [show dif8 48 (UInt8.ofNat (48 + dif8 48 48)) = 0 from rfl]; simp⟩
    · exact ⟨rfl, by rw [show dif8 48 (UInt8.ofNat (48 + dif8 48 49)) = 1 from rfl]; simp; omega⟩
    · exact ⟨rfl, by rw [show dif8 49 (UInt8.ofNat (48 + dif8 49 48)) = 0 from rfl]; simp⟩
    · exact ⟨rfl, by rw [show dif8 49 (UInt8.ofNat (48 + dif8 49 49)) = 1 from rfl]; simp; omega⟩
theorem count_upd (f : Nat → UInt8) (x : Nat) : ∀ n, f x ≠ 49 → ((List.range n).map fun m => if m = x then 49 else f m).count 49 = ((List.range n).map f).count 49 + (if x < n then 1 else 0)
  | 0, _ => by simp
  | n + 1, h => by
    have ih := count_upd f x n h
    rw [List.range_succ, List.map_append, List.map_append, List.count_append, List.count_append, ih]
    by_cases e : n = x
    · subst e
      have e1 : List.count (49 : UInt8) (List.map (fun m => if m = n then 49 else f m) [n]) = 1 := by simp
      have e2 : List.count (49 : UInt8) (List.map f [n]) = 0 := by simp [List.count_eq_zero, Ne.symm h]
      rw [e1, e2, if_neg (by omega), if_pos (by omega)]
    · have e1 : List.map (fun m => if m = x then 49 else f m) [n] = List.map f [n] := by simp [e]
      rw [e1]
      by_cases hx : x < n
      · rw [if_pos hx, if_pos (by omega)]; omega
      · rw [if_neg hx, if_neg (by omega)]; omega
theorem count_sp (n : Nat) (l : List Int) (hr : ∀ x ∈ l, 0 ≤ x ∧ x < n) (hd : l.Nodup) : ∀ j, j ≤ l.length → (spW n (l.take j)).count 49 = j
  | 0, _ => by
    rw [List.take_zero, List.count_eq_zero]
    intro h
    obtain ⟨m, _, hm⟩ := List.mem_map.1 h
    simp [spF] at hm
  | j + 1, hj => by
    obtain ⟨x, hx⟩ := some_of_lt (show j < l.length by omega)
    obtain ⟨h0, hn⟩ := hr x (List.mem_of_getElem? hx)
    obtain ⟨m, rfl⟩ : ∃ m : Nat, x = (m : Int) := ⟨x.toNat, by omega⟩
    have hnot : (m : Int) ∉ l.take j := by
      intro hmem
      obtain ⟨q, hq⟩ := List.getElem?_of_mem hmem
      rw [List.getElem?_take] at hq
      split at hq
      · rename_i hqj
        have := (List.getElem?_inj (lt_of_some hq) hd).1 (hq.trans hx.symm)
        omega
      · cases hq
    have he : spW n (l.take (j + 1)) = (List.range n).map fun q => if q = m then 49 else spF (l.take j) q := by
      unfold spW
      exact List.map_congr_left fun q _ => (spF_take hx q).symm
    rw [he, count_upd (spF (l.take j)) m n (by unfold spF; rw [if_neg hnot]; decide), if_pos (by omega)]
    have := count_sp n l hr hd j (by omega)
    unfold spW at this
    omega
theorem spW_bin (n : Nat) (l : List Int) : ∀ x ∈ spW n l, x = 48 ∨ x = 49 := by
  intro x hx
  obtain ⟨m, _, rfl⟩ := List.mem_map.1 hx
  unfold spF
  split
  · exact .inr rfl
  · exact .inl rfl
end Go.Proofs.YtcobdmenigpipaaGreatDoor
