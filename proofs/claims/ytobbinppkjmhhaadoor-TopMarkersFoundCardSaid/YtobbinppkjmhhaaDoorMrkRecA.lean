/-
  marker.Search: the first marker that is valid.
  TopMarkersFound in plain terms: a track with one letter left out.
  The state of the region in which Recover appends to two rows: what holds at any point of any order.
  marker.Recover on a track of which every block is told.
  Conditions: One to three words of b letters; a size between 1 and 16. No condition: no program in sight. No condition: no program in sight, but for the types' numbers. A size between 1 and 16; a marker of at most sixteen letters; letters 0 and 1.
-/
import Derived.Test.YtobbinppkjmhhaaDoorMrkVal
import Derived.Test.YtobbinppkjmhhaaDoorEncMem
import Derived.Test.YtobbinppkjmhhaaDoorRegInv
namespace Go.Proofs.YtobbinppkjmhhaaDoor
open Go.RowKit Go.Shelf
set_option linter.unusedVariables false

/-- A row of bytes of the call's own. -/
def YRow (w : World) (g SZ : Nat) (f : Nat → UInt8) : Prop := ∃ cur, w.heap[g]? = some (.cells cur 5 (0, 0)) ∧ SZ ≤ cur.size ∧ ∀ m, m < SZ → cur[m]? = some (.int .u8 ((f m).toNat : Int))
theorem YRow.of_own {w : World} {base g n c : Nat} (h : w.ownsRow base 5 1 (.slice (some ⟨g, 0, none⟩) n c) n (List.replicate n (.int .u8 0))) : YRow w g n (fun _ => 0) := by
  rcases h.2 with ⟨h', _⟩ | ⟨g', cap', cur, h', _, hg, hnc, _, hcs, ht⟩
  · simp at h'
  · simp only [Value.slice.injEq, Option.some.injEq, Addr.mk.injEq, and_true, true_and] at h'
    obtain ⟨rfl, rfl⟩ := h'
    refine ⟨cur, hg, by omega, fun m hm => ?_⟩
    have : (cur.toList.take (n * 1))[m]? = some (.int .u8 0) := by rw [ht]; simp [hm]
    rw [List.getElem?_take, if_pos (by omega)] at this
    simpa using this
theorem YRow.below {w w' : World} {g SZ : Nat} {f : Nat → UInt8} (h : YRow w g SZ f) (hb : Below w.heap.size w w') : YRow w' g SZ f := by
  obtain ⟨cur, h1, h2⟩ := h
  exact ⟨cur, (hb.block g (Array.getElem?_eq_some_iff.1 h1).1).trans h1, h2⟩
theorem bit_byte (x : Int) : ∃ c : UInt8, (c = 48 ∨ c = 49) ∧ (48 + bits .and .i64 x 1) % 256 = (c.toNat : Int) := by
  rw [i64_and1]
  rcases (show x % 2 = 0 ∨ x % 2 = 1 by omega) with h | h
  · exact ⟨48, .inl rfl, by rw [h]; rfl⟩
  · exact ⟨49, .inr rfl, by rw [h]; rfl⟩
theorem YRow.cell {w : World} {g SZ : Nat} {f : Nat → UInt8} (h : YRow w g SZ f) {m : Nat} (hm : m < SZ) : w.cell? ⟨g, m, none⟩ = some (.int .u8 ((f m).toNat : Int)) ∧ w.frozen? ⟨g, m, none⟩ = false := by
  obtain ⟨cur, h1, h3, h4⟩ := h
  exact ⟨by rw [Lib.cell_of_heap h1]; exact h4 m hm, Lib.frozen_of_heap h1 m⟩
theorem YRow.set {w : World} {g SZ : Nat} {f : Nat → UInt8} (h : YRow w g SZ f) (m0 : Nat) (c : UInt8) : YRow (w.setCell ⟨g, m0, none⟩ (.int .u8 (c.toNat : Int))) g SZ (fun m => if m = m0 then c else f m) := by
  obtain ⟨cur, h1, h3, h4⟩ := h
  refine ⟨cur.setIfInBounds m0 (.int .u8 (c.toNat : Int)), ?_, by simpa using h3, fun m hm => ?_⟩
  · simp [World.setCell, Array.getElem?_modify, h1]
  · rw [Array.getElem?_setIfInBounds]
    by_cases e : m = m0
    · subst e; rw [if_pos rfl, if_pos (by omega)]; simp
    · rw [if_neg (fun h => e h.symm), h4 m hm]; dsimp only; rw [if_neg e]
theorem conv_yrow (w : World) (g SZ c : Nat) (f : Nat → UInt8) (h : YRow w g SZ f) : (convert 22 9 (.slice (some ⟨g, 0, none⟩) SZ c)).run Tryd.prog w = .ok (.string (mkS ((List.range SZ).map f))) w := by
  rw [run_convert_bytes_string w 22 9 5 _ _ _ Tryd.underlying22 Tryd.underlying5 Tryd.underlying9]
  rw [run_bytesToString w ⟨g, 0, none⟩ SZ c ((List.range SZ).map fun m => ((f m).toNat : Int)) ?_]
  · congr 2
    apply ba_ext
    rw [push_list]
    simp [mkS]
  · have hl : ((List.range SZ).map fun m => Value.int .u8 ((f m).toNat : Int)).length = SZ := by simp
    have := run_loadCells_list (P := Tryd.prog) (w := w) ⟨g, 0, none⟩ ((List.range SZ).map fun m => Value.int .u8 ((f m).toNat : Int)) (fun j v hj => by
      have hlt := lt_of_some hj
      rw [hl] at hlt
      rw [Addr.add_lit, Nat.zero_add, (h.cell hlt).1]
      simp [hlt] at hj
      rw [hj])
    rw [hl] at this
    rw [this, List.map_map]
    rfl
/-- What a marker that is found is like. -/
structure Found (b : Nat) (ws : List (List UInt8)) (m : List UInt8) : Prop where
  ne : m ≠ []
  len : m.length ≤ 4
  bin : ∀ x ∈ m, x = 48 ∨ x = 49
  ok : ∀ i k x, ws[i]? = some x → k < x.length → locOk b m ws (i, -1, delW x k)
set_option maxRecDepth 100000 in
set_option maxHeartbeats 4000000 in
theorem search_any (b : Nat) (ws : List (List UInt8)) (v : Value) (w : World) (hl : Sl 1 w v ws.length (sstr ws)) (hb : 1 ≤ b) (hb2 : b ≤ 16) (hn : ws.length ≤ 3) (h0 : ws ≠ []) (hw : ∀ x ∈ ws, wordErr 2 (mkS x) = 0 ∧ x.length = b) :
    Calls Tryd.prog 5 #[.int .i64 (b : Int), .int .i64 4, v] w fun e w' => Below w.heap.size w w' ∧ ((∃ m, Found b ws m ∧ e = .returned (.tuple #[.string (mkS m), .int .i64 0])) ∨ e = .returned (.tuple #[.string ⟨#[]⟩, .int .i64 20])) := by
  have HCs := hid (fun X => checkSize_any b X hb hb2)
  have HCw := hid (fun X (hX : Dr w X) => checkWords_any b 4 ws v X (hl.dr hX) hb2 (by omega) hn hw)
  have HVa := hid (fun (m : List UInt8) X (hX : Below w.heap.size w X) (hm : m ≠ []) (hm2 : m.length ≤ 16) => valid_any b m ws v hb hb2 hm hm2 hn h0 (fun x hx => by rw [(hw x hx).2]; exact hb2) X (hl.below hX))
  obtain ⟨ao, cap, rfl, _⟩ := id hl
  clear hl hw
  go_enter Tryd.func5, Tryd.ntmps5
  go_upto_region 9 with (first
    | (go_at_call 11; refine (HCs.out _).mono ?_; rintro e w1 ⟨rfl, hD1⟩)
    | (go_at_call 12; refine (HCw.out _ hD1).mono ?_; rintro e w2 ⟨rfl, hD2⟩))
  have HD2 := hid ((hD1.trans hD2).below w.heap.size)
  clear hD1 hD2 HCs HCw
  go_wp2
  go_loopw [10] (fun i wr => ∃ n : Nat, 1 ≤ n ∧ n ≤ 5 ∧ i = .int .i64 (n : Int) ∧ Hid (Below w.heap.size w wr)) (fun i _ => 5 - (intOf i).toNat)
  case atStart => exact ⟨1, by omega, by omega, rfl, HD2⟩
  case round =>
    obtain ⟨n, hn1, hn5, rfl, HB⟩ := hrel
    rename World => wk
    by_cases hn4 : n ≤ 4
    · have hn4i : (n : Int) ≤ 4 := by omega
      obtain ⟨KN, hKN, hKN2⟩ : ∃ KN : Nat, wrap64 (2 ^ n) = (KN : Int) ∧ KN ≤ 16 := by
        rcases (show n = 1 ∨ n = 2 ∨ n = 3 ∨ n = 4 by omega) with rfl | rfl | rfl | rfl
        · exact ⟨2, by decide +kernel, by omega⟩
        · exact ⟨4, by decide +kernel, by omega⟩
        · exact ⟨8, by decide +kernel, by omega⟩
        · exact ⟨16, by decide +kernel, by omega⟩
      have HN4 := hid hn4
      clear hn4 hn5
      go_wp2
      rw [hKN]
      clear hKN
      go_loopw [39] (fun v wr => ∃ k : Nat, k ≤ KN ∧ v = .int .i64 (k : Int) ∧ Hid (Below w.heap.size w wr)) (fun v _ => KN - (intOf v).toNat)
      case atStart => exact ⟨0, Nat.zero_le _, rfl, HB⟩
      case round =>
        obtain ⟨k, hk, rfl, HBk⟩ := hrel
        rename World => wj
        by_cases hkl : k < KN
        · have hkl2 : (k : Int) < (KN : Int) := by omega
          go_upto_region 16 with (at_make; refine wpList_zeros _ rfl _ _ 22 rfl wj.heap.size 5 (.int .u8 0) 1 Tryd.underlying22 Tryd.infoU8 rfl _ _ _ _ n rfl rfl rfl rfl (by have := HN4.out; omega) (by have := HN4.out; unfold maxLen; omega) (Nat.le_refl _) ?_; intro w7 hown7 hb7)
          obtain ⟨G, hG⟩ : ∃ G, wj.heap.size = G := ⟨_, rfl⟩
          rw [hG] at hown7 ⊢
          have hGw : w.heap.size ≤ G := by have := HBk.out.size; omega
          have HY := hid (YRow.of_own hown7)
          have HB7 := hid (HBk.out.trans (hb7.mono HBk.out.size))
          clear hown7 hb7
          go_wp2
          go_loopw [46] (fun v wr => ∃ (i : Nat) (f : Nat → UInt8), i ≤ n ∧ v = .int .i64 (i : Int) ∧ Hid (∀ m, m < i → f m = 48 ∨ f m = 49) ∧ Hid (YRow wr G n f) ∧ Hid (Below w.heap.size w wr)) (fun v _ => n - (intOf v).toNat)
          case atStart => exact ⟨0, fun _ => 0, Nat.zero_le _, rfl, hid (fun m h => by omega), HY, HB7⟩
          case round =>
            obtain ⟨i, f, hi, rfl, HF, HYi, HBi⟩ := hrel
            rename World => wq
            by_cases hil : i < n
            · have hil2 : (i : Int) < (n : Int) := by omega
              obtain ⟨d1, d2⟩ := HYi.out.cell hil
              obtain ⟨c, hc, hcv⟩ := bit_byte ((k : Int) / 2 ^ (n - 1 - i))
              have HC := hid hcv
              clear hcv
              go_wp2
              go_roundw
              case rel =>
                rw [HC.out]
                refine ⟨i + 1, fun m => if m = i then c else f m, hil, by go_num, hid (fun m hm => ?_), hid (HYi.out.set i c), hid (HBi.out.setCell (p := ⟨G, i, none⟩) hGw _)⟩
                by_cases e : m = i
                · simp only [e, if_pos]; exact hc
                · simp only [if_neg e]; exact HF.out m (by omega)
              case measure => simp [intOf]; omega
            · obtain rfl : i = n := by omega
              have hM1 : (List.range i).map f ≠ [] := by
                intro h
                have := congrArg List.length h
                simp at this
                omega
              have hM2 : ((List.range i).map f).length = i := by simp
              have hM3 : ∀ x ∈ (List.range i).map f, x = 48 ∨ x = 49 := fun x hx => by
                obtain ⟨m, hm, rfl⟩ := List.mem_map.1 hx
                exact HF.out m (List.mem_range.1 hm)
              have HCv := hid (fun X h => conv_yrow X G i i f h)
              generalize (List.range i).map f = M at *
              have hcv := HCv.out _ HYi.out
              have HVm := hid (HVa.out M _ HBi.out hM1 (by have := HN4.out; omega))
              have HFd := hid (show (∀ i k x, ws[i]? = some x → k < x.length → locOk b M ws (i, -1, delW x k)) → Found b ws M from fun h => ⟨hM1, by have := HN4.out; omega, hM3, h⟩)
              clear hM1 hM2 hM3
              go_upto_if 66 with (go_at_call 13; refine HVm.out.mono ?_; rintro e w9 ⟨V, rfl, hb9, hV⟩)
              have HB9 := hid (HBi.out.trans (hb9.mono HBi.out.size))
              have hcv9 := HCv.out w9 (HYi.out.below hb9)
              have HV := hid hV
              clear hb9 hV hcv
              cases V with
              | true =>
                go_wp2
                go_ret2
                exact ⟨HB9.out, .inl ⟨M, HFd.out (HV.out trivial), rfl⟩⟩
              | false =>
                go_wp2
                go_roundw
                case rel => exact ⟨k + 1, by omega, by go_num, HB9⟩
                case measure => simp [intOf]; omega
        · obtain rfl : k = KN := by omega
          have HN5 := HN4
          go_wp2
          go_roundw
          case rel => exact ⟨n + 1, by omega, by have := HN4.out; omega, by go_num, HBk⟩
          case measure => have := HN4.out; simp [intOf]; omega
    · have hn4i : ¬ (n : Int) ≤ 4 := by omega
      go_wp2
      go_ret2
      exact ⟨HB.out, .inr rfl⟩
end Go.Proofs.YtobbinppkjmhhaaDoor

namespace Go.Proofs.YtobbinppkjmhhaaDoor
open Go.RowKit
set_option linter.unusedVariables false

/-- The blocks of the law's track. -/
def lawBlk (ws : List (List UInt8)) (k : Nat) (d : List UInt8) : List Blk := (ws.map fun x => (x, (0 : Int))).set k (d, -1)
theorem lawBlk_len (ws : List (List UInt8)) (k : Nat) (d : List UInt8) : (lawBlk ws k d).length = ws.length := by simp [lawBlk]
theorem lawBlk_words (ws : List (List UInt8)) (k : Nat) (d : List UInt8) : (lawBlk ws k d).map (·.1) = ws.set k d := by
  unfold lawBlk; rw [List.map_set, List.map_map]; simp [Function.comp_def]
theorem lawBlk_shifts (ws : List (List UInt8)) (k : Nat) (d : List UInt8) : (lawBlk ws k d).map (·.2) = (List.replicate ws.length (0 : Int)).set k (-1) := by
  unfold lawBlk; rw [List.map_set, List.map_map]
  congr 1
  rw [show ((fun p : Blk => p.2) ∘ fun x : List UInt8 => (x, (0 : Int))) = fun _ => 0 from rfl, List.map_const']
theorem lawBlk_mem {ws : List (List UInt8)} {k : Nat} {d : List UInt8} {p : Blk} (h : p ∈ lawBlk ws k d) : (p.1 ∈ ws ∧ p.2 = 0) ∨ p = (d, -1) := by
  rcases List.mem_or_eq_of_mem_set h with h | h
  · obtain ⟨x, hx, rfl⟩ := List.mem_map.1 h
    exact .inl ⟨hx, rfl⟩
  · exact .inr h
/-- What Recover finds on the law's track. -/
theorem law_blk {b k i : Nat} {m x : List UInt8} {ws : List (List UInt8)} (hF : Found b ws m) (hw : ∀ x ∈ ws, x.length = b) (hx : ws[k]? = some x) (hi : i < b) :
    locB b m (trk m (ws.set k (delW x i))) = true ∧ blk b m (trk m (ws.set k (delW x i))) = lawBlk ws k (delW x i) := by
  have hxl := hw x (List.mem_of_getElem? hx)
  obtain ⟨h1, h2⟩ := hF.ok k i x hx (by omega)
  refine ⟨h1, ?_⟩
  have h3 := blk_back hF.ne (b := b) (lawBlk ws k (delW x i)) (fun p hp => by
    rcases lawBlk_mem hp with ⟨hp1, hp2⟩ | rfl
    · rw [hp2, hw _ hp1]; exact ⟨by omega, by decide⟩
    · refine ⟨?_, by show (-1 : Int) ≠ 2; decide⟩
      simp only [delW, List.length_append, List.length_take, List.length_drop]
      omega) (by rw [lawBlk_words, lawBlk_shifts]; exact h2)
  rw [lawBlk_words] at h3
  exact h3
theorem lawBlk_get {ws : List (List UInt8)} {k n : Nat} {d y : List UInt8} (hy : ws[n]? = some y) : (lawBlk ws k d)[n]? = some (if n = k then (d, -1) else (y, 0)) := by
  unfold lawBlk
  have hn := (List.getElem?_eq_some_iff.1 hy).1
  rw [List.getElem?_set]
  by_cases e : k = n
  · subst e; simp [hn]
  · rw [if_neg e, if_neg (fun h => e h.symm), List.getElem?_map, hy]; rfl
/-- The track as far as the words are laid. -/
theorem trk_take {m : List UInt8} {ws : List (List UInt8)} {n : Nat} {y : List UInt8} (h : ws[n]? = some y) : trk m (ws.take (n + 1)) = trk m (ws.take n) ++ (y ++ m) := by
  rw [take_snoc h, trk_snoc]
end Go.Proofs.YtobbinppkjmhhaaDoor

namespace Go.Proofs.YtobbinppkjmhhaaDoor
open Go.RowKit
set_option linter.unusedVariables false
set_option linter.unusedSimpArgs false

structure RecSt (W : World) (h n : Nat) (R1 R2 : List Value) (v1 v2 : Value) (y : List UInt8) (s : Int) (β : Bool) (L : Nat → Bool) (u31 u32 u33 u34 u35 u36 u37 u38 u39 : Value) (w : World) : Prop where
  kept : KeepsOthers W w
  low : ∀ k, k < h + 8 → k ≠ h + 3 → k ≠ h + 4 → w.heap[k]? = W.heap[k]?
  os : w.os = W.os ∧ w.tape = W.tape ∧ w.output = W.output
  size : h + 8 ≤ w.heap.size
  d3 : L 3 = true → L 0 = true ∧ L 2 = true
  d8 : L 8 = true → L 3 = true ∧ L 4 = true ∧ L 7 = true
  d9 : L 9 = true → L 8 = true
  d10 : L 10 = true → L 9 = true
  a0 : L 0 = true → u31 = v1
  a1 : L 1 = true → u32 = .string (mkS y)
  a2 : L 2 = true → L 3 = false → ∃ q, u33 = .slice (some ⟨q, 0, none⟩) 1 1 ∧ w.heap[q]? = some (.cells #[.string (mkS y)] 9 (0, 0)) ∧ h + 8 ≤ q
  a4 : L 4 = true → u35 = v2
  a5 : L 5 = true → u36 = .int .i64 s
  a6 : L 6 = true → u37 = .bool β
  a7 : L 7 = true → L 8 = false → ∃ q, u38 = .slice (some ⟨q, 0, none⟩) 1 1 ∧ w.heap[q]? = some (.cells #[.bool β] 4 (0, 0)) ∧ h + 8 ≤ q
  r1 : L 3 = false → w.ownsRow (h + 8) 9 1 v1 n R1
  r1y : L 3 = true → w.ownsRow (h + 8) 9 1 u34 (n + 1) (R1 ++ [.string (mkS y)])
  r2 : L 8 = false → w.ownsRow (h + 8) 4 1 v2 n R2
  r2y : L 8 = true → w.ownsRow (h + 8) 4 1 u39 (n + 1) (R2 ++ [.bool β])
  b1 : L 9 = false → Boxed w (h + 3) 24 v1
  b1y : L 9 = true → Boxed w (h + 3) 24 u34
  b2 : L 10 = false → Boxed w (h + 4) 28 v2
  b2y : L 10 = true → Boxed w (h + 4) 28 u39
def upd (L : Nat → Bool) (i : Nat) : Nat → Bool := fun j => if j = i then true else L j
theorem upd_same (L : Nat → Bool) (i : Nat) : upd L i i = true := by simp [upd]
theorem upd_ne (L : Nat → Bool) {i j : Nat} (h : j ≠ i) : upd L i j = L j := by simp [upd, h]
section
variable {W w : World} {h n : Nat} {R1 R2 : List Value} {v1 v2 : Value} {y : List UInt8} {s : Int} {β : Bool} {L : Nat → Bool} {u31 u32 u33 u34 u35 u36 u37 u38 u39 : Value}
theorem RecSt.s0 (H : RecSt W h n R1 R2 v1 v2 y s β L u31 u32 u33 u34 u35 u36 u37 u38 u39 w) : RecSt W h n R1 R2 v1 v2 y s β (upd L 0) (v1) u32 u33 u34 u35 u36 u37 u38 u39 w := ⟨(H.kept),
    (H.low),
    (H.os),
    (H.size),
    (fun e => by have := H.d3 (by simpa [upd] using e); simp [upd, this]),
    (fun e => by have := H.d8 (by simpa [upd] using e); simp [upd, this]),
    (fun e => by have := H.d9 (by simpa [upd] using e); simp [upd, this]),
    (fun e => by have := H.d10 (by simpa [upd] using e); simp [upd, this]),
    (fun _ => rfl),
    (fun e => H.a1 (by simpa [upd] using e)),
    (fun e f => H.a2 (by simpa [upd] using e) (by simpa [upd] using f)),
    (fun e => H.a4 (by simpa [upd] using e)),
    (fun e => H.a5 (by simpa [upd] using e)),
    (fun e => H.a6 (by simpa [upd] using e)),
    (fun e f => H.a7 (by simpa [upd] using e) (by simpa [upd] using f)),
    (fun e => H.r1 (by simpa [upd] using e)),
    (fun e => H.r1y (by simpa [upd] using e)),
    (fun e => H.r2 (by simpa [upd] using e)),
    (fun e => H.r2y (by simpa [upd] using e)),
    (fun e => H.b1 (by simpa [upd] using e)),
    (fun e => H.b1y (by simpa [upd] using e)),
    (fun e => H.b2 (by simpa [upd] using e)),
    (fun e => H.b2y (by simpa [upd] using e))⟩
theorem RecSt.s1 (H : RecSt W h n R1 R2 v1 v2 y s β L u31 u32 u33 u34 u35 u36 u37 u38 u39 w) : RecSt W h n R1 R2 v1 v2 y s β (upd L 1) u31 (.string (mkS y)) u33 u34 u35 u36 u37 u38 u39 w := ⟨(H.kept),
    (H.low),
    (H.os),
    (H.size),
    (fun e => by have := H.d3 (by simpa [upd] using e); simp [upd, this]),
    (fun e => by have := H.d8 (by simpa [upd] using e); simp [upd, this]),
    (fun e => by have := H.d9 (by simpa [upd] using e); simp [upd, this]),
    (fun e => by have := H.d10 (by simpa [upd] using e); simp [upd, this]),
    (fun e => H.a0 (by simpa [upd] using e)),
    (fun _ => rfl),
    (fun e f => H.a2 (by simpa [upd] using e) (by simpa [upd] using f)),
    (fun e => H.a4 (by simpa [upd] using e)),
    (fun e => H.a5 (by simpa [upd] using e)),
    (fun e => H.a6 (by simpa [upd] using e)),
    (fun e f => H.a7 (by simpa [upd] using e) (by simpa [upd] using f)),
    (fun e => H.r1 (by simpa [upd] using e)),
    (fun e => H.r1y (by simpa [upd] using e)),
    (fun e => H.r2 (by simpa [upd] using e)),
    (fun e => H.r2y (by simpa [upd] using e)),
    (fun e => H.b1 (by simpa [upd] using e)),
    (fun e => H.b1y (by simpa [upd] using e)),
    (fun e => H.b2 (by simpa [upd] using e)),
    (fun e => H.b2y (by simpa [upd] using e))⟩
theorem RecSt.s4 (H : RecSt W h n R1 R2 v1 v2 y s β L u31 u32 u33 u34 u35 u36 u37 u38 u39 w) : RecSt W h n R1 R2 v1 v2 y s β (upd L 4) u31 u32 u33 u34 (v2) u36 u37 u38 u39 w := ⟨(H.kept),
    (H.low),
    (H.os),
    (H.size),
    (fun e => by have := H.d3 (by simpa [upd] using e); simp [upd, this]),
    (fun e => by have := H.d8 (by simpa [upd] using e); simp [upd, this]),
    (fun e => by have := H.d9 (by simpa [upd] using e); simp [upd, this]),
    (fun e => by have := H.d10 (by simpa [upd] using e); simp [upd, this]),
    (fun e => H.a0 (by simpa [upd] using e)),
    (fun e => H.a1 (by simpa [upd] using e)),
    (fun e f => H.a2 (by simpa [upd] using e) (by simpa [upd] using f)),
    (fun _ => rfl),
    (fun e => H.a5 (by simpa [upd] using e)),
    (fun e => H.a6 (by simpa [upd] using e)),
    (fun e f => H.a7 (by simpa [upd] using e) (by simpa [upd] using f)),
    (fun e => H.r1 (by simpa [upd] using e)),
    (fun e => H.r1y (by simpa [upd] using e)),
    (fun e => H.r2 (by simpa [upd] using e)),
    (fun e => H.r2y (by simpa [upd] using e)),
    (fun e => H.b1 (by simpa [upd] using e)),
    (fun e => H.b1y (by simpa [upd] using e)),
    (fun e => H.b2 (by simpa [upd] using e)),
    (fun e => H.b2y (by simpa [upd] using e))⟩
theorem RecSt.s5 (H : RecSt W h n R1 R2 v1 v2 y s β L u31 u32 u33 u34 u35 u36 u37 u38 u39 w) : RecSt W h n R1 R2 v1 v2 y s β (upd L 5) u31 u32 u33 u34 u35 (.int .i64 s) u37 u38 u39 w := ⟨(H.kept),
    (H.low),
    (H.os),
    (H.size),
    (fun e => by have := H.d3 (by simpa [upd] using e); simp [upd, this]),
    (fun e => by have := H.d8 (by simpa [upd] using e); simp [upd, this]),
    (fun e => by have := H.d9 (by simpa [upd] using e); simp [upd, this]),
    (fun e => by have := H.d10 (by simpa [upd] using e); simp [upd, this]),
    (fun e => H.a0 (by simpa [upd] using e)),
    (fun e => H.a1 (by simpa [upd] using e)),
    (fun e f => H.a2 (by simpa [upd] using e) (by simpa [upd] using f)),
    (fun e => H.a4 (by simpa [upd] using e)),
    (fun _ => rfl),
    (fun e => H.a6 (by simpa [upd] using e)),
    (fun e f => H.a7 (by simpa [upd] using e) (by simpa [upd] using f)),
    (fun e => H.r1 (by simpa [upd] using e)),
    (fun e => H.r1y (by simpa [upd] using e)),
    (fun e => H.r2 (by simpa [upd] using e)),
    (fun e => H.r2y (by simpa [upd] using e)),
    (fun e => H.b1 (by simpa [upd] using e)),
    (fun e => H.b1y (by simpa [upd] using e)),
    (fun e => H.b2 (by simpa [upd] using e)),
    (fun e => H.b2y (by simpa [upd] using e))⟩
theorem RecSt.s6 (H : RecSt W h n R1 R2 v1 v2 y s β L u31 u32 u33 u34 u35 u36 u37 u38 u39 w) : RecSt W h n R1 R2 v1 v2 y s β (upd L 6) u31 u32 u33 u34 u35 u36 (.bool β) u38 u39 w := ⟨(H.kept),
    (H.low),
    (H.os),
    (H.size),
    (fun e => by have := H.d3 (by simpa [upd] using e); simp [upd, this]),
    (fun e => by have := H.d8 (by simpa [upd] using e); simp [upd, this]),
    (fun e => by have := H.d9 (by simpa [upd] using e); simp [upd, this]),
    (fun e => by have := H.d10 (by simpa [upd] using e); simp [upd, this]),
    (fun e => H.a0 (by simpa [upd] using e)),
    (fun e => H.a1 (by simpa [upd] using e)),
    (fun e f => H.a2 (by simpa [upd] using e) (by simpa [upd] using f)),
    (fun e => H.a4 (by simpa [upd] using e)),
    (fun e => H.a5 (by simpa [upd] using e)),
    (fun _ => rfl),
    (fun e f => H.a7 (by simpa [upd] using e) (by simpa [upd] using f)),
    (fun e => H.r1 (by simpa [upd] using e)),
    (fun e => H.r1y (by simpa [upd] using e)),
    (fun e => H.r2 (by simpa [upd] using e)),
    (fun e => H.r2y (by simpa [upd] using e)),
    (fun e => H.b1 (by simpa [upd] using e)),
    (fun e => H.b1y (by simpa [upd] using e)),
    (fun e => H.b2 (by simpa [upd] using e)),
    (fun e => H.b2y (by simpa [upd] using e))⟩
theorem RecSt.alloc (H : RecSt W h n R1 R2 v1 v2 y s β L u31 u32 u33 u34 u35 u36 u37 u38 u39 w) (o : Obj) : RecSt W h n R1 R2 v1 v2 y s β L u31 u32 u33 u34 u35 u36 u37 u38 u39 (w.alloc o) := 
  ⟨H.kept.trans (KeepsOthers.alloc _ _), fun k h1 h2 h3 => (Below.heap_alloc _ _ _ (by have := H.size; omega)).trans (H.low k h1 h2 h3), H.os, by have := H.size; simp; omega, H.d3, H.d8, H.d9, H.d10, H.a0, H.a1, fun e f => by
    obtain ⟨q, h1, h2, h3⟩ := H.a2 e f
    exact ⟨q, h1, (Below.heap_alloc _ _ _ (Array.getElem?_eq_some_iff.1 h2).1).trans h2, h3⟩, H.a4, H.a5, H.a6, fun e f => by
    obtain ⟨q, h1, h2, h3⟩ := H.a7 e f
    exact ⟨q, h1, (Below.heap_alloc _ _ _ (Array.getElem?_eq_some_iff.1 h2).1).trans h2, h3⟩, fun e => (H.r1 e).alloc _, fun e => (H.r1y e).alloc _, fun e => (H.r2 e).alloc _, fun e => (H.r2y e).alloc _, fun e => (H.b1 e).alloc _, fun e => (H.b1y e).alloc _, fun e => (H.b2 e).alloc _, fun e => (H.b2y e).alloc _⟩
theorem RecSt.s2 (H : RecSt W h n R1 R2 v1 v2 y s β L u31 u32 u33 u34 u35 u36 u37 u38 u39 w) : RecSt W h n R1 R2 v1 v2 y s β (upd L 2) u31 u32 (.slice (some ⟨w.heap.size, 0, none⟩) 1 1) u34 u35 u36 u37 u38 u39 (w.alloc (.cells #[.string (mkS y)] 9)) := by
  have hs := H.size
  replace H := H.alloc (.cells #[.string (mkS y)] 9)
  exact ⟨(H.kept),
    (H.low),
    (H.os),
    (H.size),
    (fun e => by have := H.d3 (by simpa [upd] using e); simp [upd, this]),
    (fun e => by have := H.d8 (by simpa [upd] using e); simp [upd, this]),
    (fun e => by have := H.d9 (by simpa [upd] using e); simp [upd, this]),
    (fun e => by have := H.d10 (by simpa [upd] using e); simp [upd, this]),
    (fun e => H.a0 (by simpa [upd] using e)),
    (fun e => H.a1 (by simpa [upd] using e)),
    (fun _ _ => ⟨_, rfl, World.alloc_heap_new _ _, hs⟩),
    (fun e => H.a4 (by simpa [upd] using e)),
    (fun e => H.a5 (by simpa [upd] using e)),
    (fun e => H.a6 (by simpa [upd] using e)),
    (fun e f => H.a7 (by simpa [upd] using e) (by simpa [upd] using f)),
    (fun e => H.r1 (by simpa [upd] using e)),
    (fun e => H.r1y (by simpa [upd] using e)),
    (fun e => H.r2 (by simpa [upd] using e)),
    (fun e => H.r2y (by simpa [upd] using e)),
    (fun e => H.b1 (by simpa [upd] using e)),
    (fun e => H.b1y (by simpa [upd] using e)),
    (fun e => H.b2 (by simpa [upd] using e)),
    (fun e => H.b2y (by simpa [upd] using e))⟩
theorem RecSt.s7 (H : RecSt W h n R1 R2 v1 v2 y s β L u31 u32 u33 u34 u35 u36 u37 u38 u39 w) : RecSt W h n R1 R2 v1 v2 y s β (upd L 7) u31 u32 u33 u34 u35 u36 u37 (.slice (some ⟨w.heap.size, 0, none⟩) 1 1) u39 (w.alloc (.cells #[.bool β] 4)) := by
  have hs := H.size
  replace H := H.alloc (.cells #[.bool β] 4)
  exact ⟨(H.kept),
    (H.low),
    (H.os),
    (H.size),
    (fun e => by have := H.d3 (by simpa [upd] using e); simp [upd, this]),
    (fun e => by have := H.d8 (by simpa [upd] using e); simp [upd, this]),
    (fun e => by have := H.d9 (by simpa [upd] using e); simp [upd, this]),
    (fun e => by have := H.d10 (by simpa [upd] using e); simp [upd, this]),
    (fun e => H.a0 (by simpa [upd] using e)),
    (fun e => H.a1 (by simpa [upd] using e)),
    (fun e f => H.a2 (by simpa [upd] using e) (by simpa [upd] using f)),
    (fun e => H.a4 (by simpa [upd] using e)),
    (fun e => H.a5 (by simpa [upd] using e)),
    (fun e => H.a6 (by simpa [upd] using e)),
    (fun _ _ => ⟨_, rfl, World.alloc_heap_new _ _, hs⟩),
    (fun e => H.r1 (by simpa [upd] using e)),
    (fun e => H.r1y (by simpa [upd] using e)),
    (fun e => H.r2 (by simpa [upd] using e)),
    (fun e => H.r2y (by simpa [upd] using e)),
    (fun e => H.b1 (by simpa [upd] using e)),
    (fun e => H.b1y (by simpa [upd] using e)),
    (fun e => H.b2 (by simpa [upd] using e)),
    (fun e => H.b2y (by simpa [upd] using e))⟩
theorem rows_apart {w : World} {b1 b2 : Nat} {e1 e2 : TypeId} {v1 v2 : Value} {n1 n2 : Nat} {x1 x2 : List Value} (h1 : w.ownsRow b1 e1 1 v1 n1 x1) (h2 : w.ownsRow b2 e2 1 v2 n2 x2) (he : e1 ≠ e2) : v1.ownBlock = none ∨ v1.ownBlock ≠ v2.ownBlock := by
  rcases h1.2 with ⟨rfl, _⟩ | ⟨g, cap, cur, rfl, _, hg, _⟩
  · exact .inl rfl
  · refine .inr fun e => ?_
    rcases h2.2 with ⟨rfl, _⟩ | ⟨g', cap', cur', rfl, _, hg', _⟩
    · cases e
    · have : g = g' := by simpa [Value.ownBlock] using e
      subst this
      rw [hg] at hg'
      cases hg'
      exact he rfl
theorem block_apart {w : World} {b q : Nat} {e e' : TypeId} {v : Value} {n : Nat} {xs : List Value} {cs : Array Value} {fz : Nat × Nat} (h : w.ownsRow b e 1 v n xs) (hq : w.heap[q]? = some (.cells cs e' fz)) (he : e ≠ e') : some q ≠ v.ownBlock := fun e1 => by
  rcases h.2 with ⟨rfl, _⟩ | ⟨g, cap, cur, rfl, _, hg, _⟩
  · cases e1
  · have : q = g := by simpa [Value.ownBlock] using e1
    subst this
    rw [hg] at hq
    cases hq
    exact he rfl
theorem own_cells {w : World} {b : Nat} {e : TypeId} {v : Value} {n : Nat} {xs : List Value} (h : w.ownsRow b e 1 v n xs) : ∀ (j : Nat) (o : Obj), v.ownBlock = some j → w.heap[j]? = some o → o.isCells = true := fun j o e1 h1 => by
  rcases h.2 with ⟨rfl, _⟩ | ⟨g, cap, cur, rfl, _, hg, _⟩
  · cases e1
  · have : g = j := by simpa [Value.ownBlock] using e1
    subst this
    rw [hg] at h1
    cases h1
    rfl
theorem RecSt.s3 (H : RecSt W h n R1 R2 v1 v2 y s β L u31 u32 u33 u34 u35 u36 u37 u38 u39 w) (hL : L 3 = false) (hd : L 0 = true ∧ L 2 = true) {v' : Value} {w' : World} (hown : w'.ownsRow (h + 8) 9 1 v' (n + 1) (R1 ++ [.string (mkS y)])) (hg : w.grownBy w' v1.ownBlock) : RecSt W h n R1 R2 v1 v2 y s β (upd L 3) u31 u32 u33 v' u35 u36 u37 u38 u39 w' := 
  ⟨(H.kept.trans (KeepsOthers.of_grownBy hg (own_cells (H.r1 hL)))),
    (fun k h1 h2 h3 => (hg.block k (by have := H.size; omega) (row_low (H.r1 hL) h1)).trans (H.low k h1 h2 h3)),
    (⟨hg.os.trans H.os.1, hg.tape.trans H.os.2.1, hg.output.trans H.os.2.2⟩),
    (Nat.le_trans H.size hg.size),
    (fun _ => by simp [upd, hd]),
    (fun e => by have := H.d8 (by simpa [upd] using e); simp [upd, this]),
    (fun e => by have := H.d9 (by simpa [upd] using e); simp [upd, this]),
    (fun e => by have := H.d10 (by simpa [upd] using e); simp [upd, this]),
    (fun e => H.a0 (by simpa [upd] using e)),
    (fun e => H.a1 (by simpa [upd] using e)),
    (fun _ f => by simp [upd] at f),
    (fun e => H.a4 (by simpa [upd] using e)),
    (fun e => H.a5 (by simpa [upd] using e)),
    (fun e => H.a6 (by simpa [upd] using e)),
    (fun e f => by
    obtain ⟨q, h1, h2, h3⟩ := H.a7 (by simpa [upd] using e) (by simpa [upd] using f)
    exact ⟨q, h1, (hg.block q (Array.getElem?_eq_some_iff.1 h2).1 (block_apart (H.r1 hL) h2 (by decide))).trans h2, h3⟩),
    (fun e => by simp [upd] at e),
    (fun _ => hown),
    (fun e => (H.r2 (by simpa [upd] using e)).kept hg (rows_apart (H.r2 (by simpa [upd] using e)) (H.r1 hL) (by decide))),
    (fun e => by have := (H.d8 (by simpa [upd] using e)).1; rw [hL] at this; cases this),
    (fun e => (hg.block _ (H.b1 (by simpa [upd] using e)).lt (row_low (H.r1 hL) (by omega))).trans (H.b1 (by simpa [upd] using e))),
    (fun e => by have := (H.d8 (H.d9 (by simpa [upd] using e))).1; rw [hL] at this; cases this),
    (fun e => (hg.block _ (H.b2 (by simpa [upd] using e)).lt (row_low (H.r1 hL) (by omega))).trans (H.b2 (by simpa [upd] using e))),
    (fun e => by have := (H.d8 (H.d9 (H.d10 (by simpa [upd] using e)))).1; rw [hL] at this; cases this)⟩
theorem RecSt.s8 (H : RecSt W h n R1 R2 v1 v2 y s β L u31 u32 u33 u34 u35 u36 u37 u38 u39 w) (hL : L 8 = false) (hd : L 3 = true ∧ L 4 = true ∧ L 7 = true) {v' : Value} {w' : World} (hown : w'.ownsRow (h + 8) 4 1 v' (n + 1) (R2 ++ [.bool β])) (hg : w.grownBy w' v2.ownBlock) : RecSt W h n R1 R2 v1 v2 y s β (upd L 8) u31 u32 u33 u34 u35 u36 u37 u38 v' w' := 
  ⟨(H.kept.trans (KeepsOthers.of_grownBy hg (own_cells (H.r2 hL)))),
    (fun k h1 h2 h3 => (hg.block k (by have := H.size; omega) (row_low (H.r2 hL) h1)).trans (H.low k h1 h2 h3)),
    (⟨hg.os.trans H.os.1, hg.tape.trans H.os.2.1, hg.output.trans H.os.2.2⟩),
    (Nat.le_trans H.size hg.size),
    (fun e => by have := H.d3 (by simpa [upd] using e); simp [upd, this]),
    (fun _ => by simp [upd, hd]),
    (fun e => by have := H.d9 (by simpa [upd] using e); simp [upd, this]),
    (fun e => by have := H.d10 (by simpa [upd] using e); simp [upd, this]),
    (fun e => H.a0 (by simpa [upd] using e)),
    (fun e => H.a1 (by simpa [upd] using e)),
    (fun e f => by rw [upd_ne L (by decide), hd.1] at f; cases f),
    (fun e => H.a4 (by simpa [upd] using e)),
    (fun e => H.a5 (by simpa [upd] using e)),
    (fun e => H.a6 (by simpa [upd] using e)),
    (fun _ f => by simp [upd] at f),
    (fun e => by rw [upd_ne L (by decide), hd.1] at e; cases e),
    (fun e => (H.r1y hd.1).kept hg (rows_apart (H.r1y hd.1) (H.r2 hL) (by decide))),
    (fun e => by simp [upd] at e),
    (fun _ => hown),
    (fun e => (hg.block _ (H.b1 (by simpa [upd] using e)).lt (row_low (H.r2 hL) (by omega))).trans (H.b1 (by simpa [upd] using e))),
    (fun e => by have := H.d9 (by simpa [upd] using e); rw [hL] at this; cases this),
    (fun e => (hg.block _ (H.b2 (by simpa [upd] using e)).lt (row_low (H.r2 hL) (by omega))).trans (H.b2 (by simpa [upd] using e))),
    (fun e => by have := H.d9 (H.d10 (by simpa [upd] using e)); rw [hL] at this; cases this)⟩
theorem RecSt.s9 (H : RecSt W h n R1 R2 v1 v2 y s β L u31 u32 u33 u34 u35 u36 u37 u38 u39 w) (hL : L 9 = false) (h8 : L 8 = true) : RecSt W h n R1 R2 v1 v2 y s β (upd L 9) u31 u32 u33 u34 u35 u36 u37 u38 u39 (w.setCell ⟨h + 3, 0, none⟩ u34) := 
  ⟨(H.kept.trans (KeepsOthers.setCell _ _ _)),
    ((fun k h1 h2 h3 => (Below.heap_setCell _ _ _ k (by show k ≠ h + 3; omega)).trans (H.low k h1 h2 h3))),
    (H.os),
    (by simp only [World.size_setCell]; exact H.size),
    (fun e => by have := H.d3 (by simpa [upd] using e); simp [upd, this]),
    (fun e => by have := H.d8 (by simpa [upd] using e); simp [upd, this]),
    (fun _ => by rw [upd_ne L (by decide)]; exact h8),
    (fun e => by have := H.d10 (by simpa [upd] using e); simp [upd, this]),
    (fun e => H.a0 (by simpa [upd] using e)),
    (fun e => H.a1 (by simpa [upd] using e)),
    (fun e f => by rw [upd_ne L (by decide)] at f; rw [(H.d8 h8).1] at f; cases f),
    (fun e => H.a4 (by simpa [upd] using e)),
    (fun e => H.a5 (by simpa [upd] using e)),
    (fun e => H.a6 (by simpa [upd] using e)),
    (fun e f => by rw [upd_ne L (by decide), h8] at f; cases f),
    (fun e => ownsRow_setCell_below (H.r1 (by simpa [upd] using e)) (by show h + 3 < h + 8; omega) _),
    (fun e => ownsRow_setCell_below (H.r1y (by simpa [upd] using e)) (by show h + 3 < h + 8; omega) _),
    (fun e => ownsRow_setCell_below (H.r2 (by simpa [upd] using e)) (by show h + 3 < h + 8; omega) _),
    (fun e => ownsRow_setCell_below (H.r2y (by simpa [upd] using e)) (by show h + 3 < h + 8; omega) _),
    (fun e => by simp [upd] at e),
    (fun _ => (H.b1 hL).set _),
    (fun e => boxed_far (H.b2 (by simpa [upd] using e)) (by omega) _),
    (fun e => boxed_far (H.b2y (by simpa [upd] using e)) (by omega) _)⟩
theorem RecSt.s10 (H : RecSt W h n R1 R2 v1 v2 y s β L u31 u32 u33 u34 u35 u36 u37 u38 u39 w) (hL : L 10 = false) (h8 : L 8 = true) (h9 : L 9 = true) : RecSt W h n R1 R2 v1 v2 y s β (upd L 10) u31 u32 u33 u34 u35 u36 u37 u38 u39 (w.setCell ⟨h + 4, 0, none⟩ u39) := 
  ⟨(H.kept.trans (KeepsOthers.setCell _ _ _)),
    ((fun k h1 h2 h3 => (Below.heap_setCell _ _ _ k (by show k ≠ h + 4; omega)).trans (H.low k h1 h2 h3))),
    (H.os),
    (by simp only [World.size_setCell]; exact H.size),
    (fun e => by have := H.d3 (by simpa [upd] using e); simp [upd, this]),
    (fun e => by have := H.d8 (by simpa [upd] using e); simp [upd, this]),
    (fun e => by have := H.d9 (by simpa [upd] using e); simp [upd, this]),
    (fun _ => by rw [upd_ne L (by decide)]; exact h9),
    (fun e => H.a0 (by simpa [upd] using e)),
    (fun e => H.a1 (by simpa [upd] using e)),
    (fun e f => by rw [upd_ne L (by decide)] at f; rw [(H.d8 h8).1] at f; cases f),
    (fun e => H.a4 (by simpa [upd] using e)),
    (fun e => H.a5 (by simpa [upd] using e)),
    (fun e => H.a6 (by simpa [upd] using e)),
    (fun e f => by rw [upd_ne L (by decide), h8] at f; cases f),
    (fun e => ownsRow_setCell_below (H.r1 (by simpa [upd] using e)) (by show h + 4 < h + 8; omega) _),
    (fun e => ownsRow_setCell_below (H.r1y (by simpa [upd] using e)) (by show h + 4 < h + 8; omega) _),
    (fun e => ownsRow_setCell_below (H.r2 (by simpa [upd] using e)) (by show h + 4 < h + 8; omega) _),
    (fun e => ownsRow_setCell_below (H.r2y (by simpa [upd] using e)) (by show h + 4 < h + 8; omega) _),
    (fun e => boxed_far (H.b1 (by simpa [upd] using e)) (by omega) _),
    (fun e => boxed_far (H.b1y (by simpa [upd] using e)) (by omega) _),
    (fun e => by simp [upd] at e),
    (fun _ => (H.b2 hL).set _)⟩
theorem RecSt.start (hL : ∀ j, j < 11 → L j = false) (hs : h + 8 ≤ W.heap.size) (hr1 : W.ownsRow (h + 8) 9 1 v1 n R1) (hr2 : W.ownsRow (h + 8) 4 1 v2 n R2) (hb1 : Boxed W (h + 3) 24 v1) (hb2 : Boxed W (h + 4) 28 v2) : RecSt W h n R1 R2 v1 v2 y s β L u31 u32 u33 u34 u35 u36 u37 u38 u39 W := by
  have e : ∀ {j : Nat} {p : Prop}, j < 11 → L j = true → p := fun hj h => by rw [hL _ hj] at h; cases h
  exact ⟨KeepsOthers.refl _, fun _ _ _ _ => rfl, ⟨rfl, rfl, rfl⟩, hs, e (by decide), e (by decide), e (by decide), e (by decide), e (by decide), e (by decide), e (by decide), e (by decide), e (by decide), e (by decide), e (by decide), fun _ => hr1, e (by decide), fun _ => hr2, e (by decide), fun _ => hb1, e (by decide), fun _ => hb2, e (by decide)⟩
end
end Go.Proofs.YtobbinppkjmhhaaDoor

namespace Go.Proofs.YtobbinppkjmhhaaDoor
open Go.RowKit Go.Shelf
attribute [local go_sem] Oper.semAt_some
set_option linter.unusedVariables false

theorem Tryd.infoBoolR : (Tryd.prog.info? 4).map (fun i => (i.zero, i.size, i.bytes)) = some (some (.bool false), 1, 1) := by kernel_rfl
/-- What is handed back of a block. -/
def recW (p : Blk) : List UInt8 := if p.2 = 0 then p.1 else []
def recB (p : Blk) : Bool := decide (p.2 = 0)
def wVals (l : List Blk) : List Value := l.map fun p => .string (mkS (recW p))
def bVals (l : List Blk) : List Value := l.map fun p => .bool (recB p)
theorem wVals_snoc (l : List Blk) (p : Blk) : wVals (l ++ [p]) = wVals l ++ [.string (mkS (recW p))] := by simp [wVals]
theorem bVals_snoc (l : List Blk) (p : Blk) : bVals (l ++ [p]) = bVals l ++ [.bool (recB p)] := by simp [bVals]
/-- While blocks are handed on. -/
structure RecIn (w : World) (h : Nat) (xs : List Blk) (W : World) : Prop where
  bel : Below h w W
  size : h + 8 ≤ W.heap.size
  r6 : Boxed W h 24 (.slice none 0 0)
  r7 : Boxed W (h + 1) 28 (.slice none 0 0)
  r8 : Boxed W (h + 2) 25 (.int .i64 0)
  words : ∃ v, Boxed W (h + 3) 24 v ∧ W.ownsRow (h + 8) 9 1 v xs.length (wVals xs)
  whole : ∃ v, Boxed W (h + 4) 28 v ∧ W.ownsRow (h + 8) 4 1 v xs.length (bVals xs)
theorem row_rec {W : World} {h r : Nat} (hr : r = h + 7 ∨ (h + 8 ≤ r ∧ ∃ o : Obj, W.heap[r]? = some o ∧ o.isCells = false)) : h + 7 ≤ r ∧ (r < h + 8 ∨ ∃ o : Obj, W.heap[r]? = some o ∧ o.isCells = false) := by
  rcases hr with rfl | ⟨h1, h2⟩
  · exact ⟨Nat.le_refl _, .inl (by omega)⟩
  · exact ⟨by omega, .inr h2⟩
theorem rec_abides (w : World) (h : Nat) : Abides2 (h + 8) (h + 7) (RecIn w h) := fun s W W' row hI hg hr => by
  obtain ⟨v, h1, h2⟩ := hI.words
  obtain ⟨u, h3, h4⟩ := hI.whole
  have hr' := fun r e => row_rec (hr r e)
  exact ⟨hI.bel.grown hg (by have := hI.size; omega) (fun k e => by have := (hr' k e).1; omega), Nat.le_trans hI.size hg.size, boxed_abides hI.r6 hg (fun r e => by have := (hr' r e).1; omega), boxed_abides hI.r7 hg (fun r e => by have := (hr' r e).1; omega), boxed_abides hI.r8 hg (fun r e => by have := (hr' r e).1; omega),
    ⟨v, boxed_abides h1 hg (fun r e => by have := (hr' r e).1; omega), own_abides h2 hg (fun r e => (hr' r e).2)⟩, ⟨u, boxed_abides h3 hg (fun r e => by have := (hr' r e).1; omega), own_abides h4 hg (fun r e => (hr' r e).2)⟩⟩

set_option maxRecDepth 100000 in
set_option maxHeartbeats 4000000 in
theorem recover_any (b : Nat) (m x : List UInt8) (hb : 1 ≤ b) (hb2 : b ≤ 16) (hm : m ≠ []) (hm2 : m.length ≤ 16) (hx : x.length ≤ 1000) (hmw : wordErr 2 (mkS m) = 0) (hxw : wordErr 2 (mkS x) = 0) (hloc : locB b m x = true) (w : World) :
    Calls Tryd.prog 6 #[.int .i64 (b : Int), .string (mkS m), .string (mkS x)] w fun e w' => ∃ v u, e = .returned (.tuple #[v, u, .int .i64 0]) ∧ Below w.heap.size w w' ∧
      w'.ownsRow w.heap.size 9 1 v (blk b m x).length (wVals (blk b m x)) ∧ w'.ownsRow w.heap.size 4 1 u (blk b m x).length (bVals (blk b m x)) := by
  have HCk := hid (fun X => mcheck_any b m x X hb hb2 hm hm2 hmw hxw)
  have HLoc := hid (show ∀ p ∈ blk b m x, p.2 ≠ 2 by
    intro p hp
    unfold locB at hloc
    rw [List.all_eq_true] at hloc
    simpa using hloc p hp)
  obtain ⟨h, hh⟩ : ∃ h, w.heap.size = h := ⟨_, rfl⟩
  rw [hh]
  refine (callsIn_wide (n := 9)).1 ?_
  refine callsIn_of_wp_marks Tryd.func6 rfl trivial ?_ rfl
  simp only [Tryd.ntmps6, List.size_toArray, List.length_cons, List.length_nil, Nat.reduceAdd, Nat.reduceSub, Array.replicate_succ, Array.replicate_zero, List.push_toArray, List.append_toArray, List.nil_append, List.cons_append]
  gi_upto_region 4 with (refine ⟨trivial, ?_⟩; gi_at_call 14; refine (callsIn_wide.2 (HCk.out _)).mono ?_; rintro e' w1 ⟨rfl, hD1⟩)
  have hs1 : w1.heap.size = h + 3 := by obtain ⟨q, rfl⟩ := hD1; show (World.heap _).size = _; simp [World.drewN, hh]
  have hb1 : Below h w w1 := by
    have := (((bel_alloc w (.cells #[.slice none 0 0] 24)).alloc (by simp) (.cells #[.slice none 0 0] 28)).alloc (by simp; omega) (.cells #[.int .i64 0] 25)).trans (hD1.below w.heap.size)
    rw [hh] at this; exact this
  have b6 : Boxed w1 h 24 (.slice none 0 0) := by
    refine ((hD1.below (h + 3)).block h (by omega)).trans ?_
    rw [← hh]; exact ((Boxed.new w _ _).alloc _).alloc _
  have b7 : Boxed w1 (h + 1) 28 (.slice none 0 0) := by
    refine ((hD1.below (h + 3)).block (h + 1) (by omega)).trans ?_
    rw [← hh]
    have := Boxed.new (w.alloc (.cells #[.slice none 0 0] 24)) 28 (.slice none 0 0)
    rw [World.size_alloc] at this
    exact this.alloc _
  have b8 : Boxed w1 (h + 2) 25 (.int .i64 0) := by
    refine ((hD1.below (h + 3)).block (h + 2) (by omega)).trans ?_
    rw [← hh]
    have := Boxed.new ((w.alloc (.cells #[.slice none 0 0] 24)).alloc (.cells #[.slice none 0 0] 28)) 25 (.int .i64 0)
    rw [World.size_alloc, World.size_alloc] at this
    exact this
  have H1 := hid (And.intro hs1 (And.intro hb1 (And.intro b6 (And.intro b7 b8))))
  clear hs1 hb1 b6 b7 b8 hD1
  gi_wp2_with (refine ⟨trivial, ?_⟩; gi_at_call 15; refine (callsIn_wide.2 (blocks_any _ _ _ _)).mono ?_; rintro e' w' ⟨rfl, rfl⟩)
  obtain ⟨X, hX⟩ : ∃ X, (((((w1.alloc (.cells #[.slice none 0 0] 24)).alloc (.cells #[.slice none 0 0] 28)).alloc (.cells #[.int .i64 (b : Int)] 3)).alloc (.cells #[.string (mkS m)] 9)).alloc (.cells #[.string (mkS x)] 9)) = X := ⟨_, rfl⟩
  rw [hX]
  obtain ⟨hs1, hb1, b6, b7, b8⟩ := H1.out
  have hsX : X.heap.size = h + 8 := by rw [← hX]; simp [hs1]
  have hMX : MrkAt (h + 5) b m x X := by rw [← hX]; exact mrkAt_new _ _ b m x (by simp [hs1])
  have hRX : RecIn w h [] X := by
    have hbX : Below w1.heap.size w1 X := by
      rw [← hX]
      exact ((((bel_alloc _ _).alloc (by simp) _).alloc (by simp; omega) _).alloc (by simp; omega) _).alloc (by simp; omega) _
    refine ⟨hb1.trans (hbX.mono (by omega)), by omega, (hbX.block _ (by omega)).trans b6, (hbX.block _ (by omega)).trans b7, (hbX.block _ (by omega)).trans b8, ⟨.slice none 0 0, ?_, World.ownsRow_nil _ _ _ _⟩, ⟨.slice none 0 0, ?_, World.ownsRow_nil _ _ _ _⟩⟩
    · rw [← hX, ← hs1]; exact ((((Boxed.new w1 _ _).alloc _).alloc _).alloc _).alloc _
    · rw [← hX]
      have := Boxed.new (w1.alloc (.cells #[.slice none 0 0] 24)) 28 (.slice none 0 0)
      rw [World.size_alloc, hs1] at this
      exact ((this.alloc _).alloc _).alloc _
  rw [hs1]
  clear hX hb1 b6 b7 b8 hs1 H1
  have HX := hid (And.intro hRX hMX)
  have HS := hid hsX
  clear hRX hMX hsX
  refine wpIn_rangeW rfl (by decide) (gf := 31) (lb := #[.pointer (some ⟨h + 5 + 2, 0, none⟩), .pointer (some ⟨h + 5, 0, none⟩), .pointer (some ⟨h + 5 + 1, 0, none⟩)]) rfl trivial (enters_of Tryd.func31 (by kernel_rfl) rfl)
    (mrk_seq (h + 5) b m x hb (by omega) hm (by omega) (by omega) X HX.out.2) MrkK.trans (fun W l o o' hl ho hc hw k h1 h2 => World.putObj_heap_other (by rw [HS.out] at hl; omega)) (Below.refl _ _) (fun _ => rfl) (by rw [HS.out]; omega)
    (RecIn w h) (fun c xs W => False) (by rw [HS.out]; exact rec_abides w h) (fun c s W W' row hs hg hr => hs) HX.out.1
    (fun p => { tmps := #[.int .i64 (b : Int), .string (mkS m), .string (mkS x), undef, undef, undef, .pointer (some ⟨h, 0, none⟩), .pointer (some ⟨h + 1, 0, none⟩), .pointer (some ⟨h + 1 + 1, 0, none⟩), .int .i64 0, .pointer (some ⟨h + 3, 0, none⟩), .pointer (some ⟨h + 3 + 1, 0, none⟩), .string (mkS p.1), .int .i64 p.2, .int .i64 (b : Int), .string (mkS m), .string (mkS x), .int .i64 0, .int .i64 0, .bool false, undef, .int .i64 (b : Int), .string (mkS m), .string (mkS x),
      .func (.func 31) #[] #[.pointer (some ⟨h + 3 + 1 + 1 + 2, 0, none⟩), .pointer (some ⟨h + 3 + 1 + 1, 0, none⟩), .pointer (some ⟨h + 3 + 1 + 1 + 1, 0, none⟩)], .string (mkS p.1), .int .i64 p.2, undef, undef, undef, undef, undef, undef, undef, undef, undef, undef, undef, undef, undef, undef, undef], defers := [] }) ?assign ?body ?done ?stop
  case assign =>
    intro l p W K hK
    gi_wp2
    exact hK
  case body =>
    intro l pre p W hI hSp
    obtain ⟨p1, p2⟩ := p
    obtain ⟨v1, hv1, hrow1⟩ := hI.words
    obtain ⟨v2, hv2, hrow2⟩ := hI.whole
    have hlen : pre.length ≤ 1000 := by
      have := Nat.le_trans (List.IsPrefix.length_le hSp) (blk_len (b := b) hm x.length x (Nat.le_refl _))
      rw [List.length_append] at this
      omega
    have hp2 : (p2 == 2) = false := by
      have := HLoc.out (p1, p2) (hSp.subset (List.mem_append_right _ (List.mem_singleton.2 rfl)))
      simpa using this
    gi_upto_if 30 with fail
    gi_cut [12] from 60 (fun v12 wr => v12 = .string (mkS (recW (p1, p2))) ∧ wr = W)
    case first =>
      rename_i CJ CK hCJ hCK
      by_cases h0 : p2 = 0
      · subst h0
        gi_wp2
        gi_meet
        exact ⟨by simp [recW], rfl⟩
      · have h0b : (p2 != 0) = true := by simp [h0]
        gi_wp2
        gi_meet
        exact ⟨by simp [recW, h0]; rfl, rfl⟩
    obtain ⟨rfl, rfl⟩ := hcut
    gi_upto_region 13 with fail
    refine wpIn_region_any (by kernel_rfl) ?_
    change wpAnyIn _ _ _ _ _ _ _ _ _ (World.drew _)
    refine wpAnyIn_inv (fun listed a w' => listed.size = 11 ∧ ∃ u31 u32 u33 u34 u35 u36 u37 u38 u39 : Value, a = { tmps := #[.int .i64 (b : Int), .string (mkS m), .string (mkS x), undef, undef, undef, .pointer (some ⟨h, 0, none⟩), .pointer (some ⟨h + 1, 0, none⟩), .pointer (some ⟨h + 1 + 1, 0, none⟩), .int .i64 0, .pointer (some ⟨h + 3, 0, none⟩), .pointer (some ⟨h + 3 + 1, 0, none⟩), .string (mkS (recW (p1, p2))), .int .i64 p2, .int .i64 (b : Int), .string (mkS m), .string (mkS x), .int .i64 0, .int .i64 0, .bool false, undef, .int .i64 (b : Int), .string (mkS m), .string (mkS x),
      .func (.func 31) #[] #[.pointer (some ⟨h + 3 + 1 + 1 + 2, 0, none⟩), .pointer (some ⟨h + 3 + 1 + 1, 0, none⟩), .pointer (some ⟨h + 3 + 1 + 1 + 1, 0, none⟩)], .string (mkS p1), .int .i64 p2, .int .i64 p2, .bool false, .int .i64 p2, .bool (p2 != 0), u31, u32, u33, u34, u35, u36, u37, u38, u39, undef, undef], defers := [] } ∧
      RecSt (wc.drew) h pre.length (wVals pre) (bVals pre) v1 v2 (recW (p1, p2)) p2 (recB (p1, p2)) (fun j => listed.getD j true) u31 u32 u33 u34 u35 u36 u37 u38 u39 w') ?fin ?step 11 _ _ _ ?start (by decide)
    case start =>
      have hdr : Below wc.heap.size wc wc.drew := below_drewN (Below.refl _ _) 1
      have hId := (rec_abides w h).one _ _ _ none hI (mk_grown hdr) (fun r e => by cases e)
      refine ⟨by simp, undef, undef, undef, undef, undef, undef, undef, undef, undef, rfl, ?_⟩
      refine RecSt.start (fun j hj => by simp [hj]) hId.size (own_below hrow1 hdr) (own_below hrow2 hdr) ((hdr.block _ hv1.lt).trans hv1) ((hdr.block _ hv2.lt).trans hv2)
    case step =>
      rintro i listed a w' ⟨hsz, u31, u32, u33, u34, u35, u36, u37, u38, u39, rfl, H⟩ hi
      dsimp only
      have hset : ∀ i, (fun j => (listed.setIfInBounds i true).getD j true) = upd (fun j => listed.getD j true) i := fun i => by
        funext j
        simp only [upd, Array.getD_eq_getD_getElem?, Array.getElem?_setIfInBounds]
        by_cases e : i = j
        · subst e
          by_cases h2 : i < listed.size <;> simp [h2]
        · rw [if_neg e, if_neg (fun h => e h.symm)]
      unfold Region.ready at hi
      rw [List.mem_filter, List.mem_range] at hi
      obtain ⟨hi1, hi2⟩ := hi
      have hi11 : i < 11 := hi1
      rcases (show i = 0 ∨ i = 1 ∨ i = 2 ∨ i = 3 ∨ i = 4 ∨ i = 5 ∨ i = 6 ∨ i = 7 ∨ i = 8 ∨ i = 9 ∨ i = 10 by omega) with rfl | rfl | rfl | rfl | rfl | rfl | rfl | rfl | rfl | rfl | rfl
      all_goals simp [Region.binds] at hi2
      · have c := (H.b1 (by
          cases e : listed.getD 9 true with
          | false => rfl
          | true => have := (H.d3 (H.d8 (H.d9 e)).1).1; rw [getD_ff hi2] at this; cases this)).cell
        refine wpOpIn_k fun K hK => wpOpIn_at rfl rfl ?_
        go_simp
        refine hK _ _ ⟨by simpa using hsz, _, _, _, _, _, _, _, _, _, rfl, ?_⟩
        rw [hset 0]
        exact H.s0
      · refine wpOpIn_k fun K hK => wpOpIn_at rfl rfl ?_
        go_simp
        refine hK _ _ ⟨by simpa using hsz, _, _, _, _, _, _, _, _, _, rfl, ?_⟩
        rw [hset 1]
        exact H.s1
      · obtain rfl := H.a1 (getD_tt hi2.2)
        refine wpOpIn_k fun K hK => wpOpIn_at rfl rfl ?_
        go_simp
        refine hK _ _ ⟨by simpa using hsz, _, _, _, _, _, _, _, _, _, rfl, ?_⟩
        rw [hset 2]
        exact H.s2
      · have hL := getD_ff hi2.1
        have h0 := getD_tt hi2.2.1
        have h2 := getD_tt hi2.2.2
        obtain rfl := H.a0 h0
        obtain ⟨q, rfl, hq, hq8⟩ := H.a2 h2 hL
        obtain ⟨i0, hi, hz0, hz1, hz2⟩ := info_parts Tryd.infoString
        refine wpOpIn_k fun K hK => wpOpIn_at rfl rfl ?_
        refine oper_append_own w' _ _ 24 rfl (h + 8) 9 i0 (.string ⟨#[]⟩) 1 16 Tryd.underlying24 hi hz0 hz1 hz2 rfl (by decide) _ pre.length (wVals pre) rfl (H.r1 hL) ⟨q, 0, none⟩ 1 1 [.string (mkS (recW (p1, p2)))] rfl rfl (fun j u hj => by
          cases j with
          | zero => cases hj; rw [Addr.add_lit, Lib.cell_of_heap hq]; rfl
          | succ j => simp at hj) (by simp [Value.oneCell']) (by unfold maxLen; omega) (by omega) H.size (fun v' w2 r1 r2 => ?_)
        refine hK _ _ ⟨by simpa using hsz, _, _, _, _, _, _, _, _, _, rfl, ?_⟩
        rw [hset 3]
        exact H.s3 hL ⟨h0, h2⟩ r1 r2
      · have c := (H.b2 (by
          cases e : listed.getD 10 true with
          | false => rfl
          | true => have := (H.d8 (H.d9 (H.d10 e))).2.1; rw [getD_ff hi2] at this; cases this)).cell
        refine wpOpIn_k fun K hK => wpOpIn_at rfl rfl ?_
        go_simp
        refine hK _ _ ⟨by simpa using hsz, _, _, _, _, _, _, _, _, _, rfl, ?_⟩
        rw [hset 4]
        exact H.s4
      · refine wpOpIn_k fun K hK => wpOpIn_at rfl rfl ?_
        go_simp
        refine hK _ _ ⟨by simpa using hsz, _, _, _, _, _, _, _, _, _, rfl, ?_⟩
        rw [hset 5]
        exact H.s5
      · obtain rfl := H.a5 (getD_tt hi2.2)
        refine wpOpIn_k fun K hK => wpOpIn_at rfl rfl ?_
        have hbq : (p2 == 0) = recB (p1, p2) := by unfold recB; by_cases e : p2 = 0 <;> simp [e]
        go_simp
        refine hK _ _ ⟨by simpa using hsz, _, _, _, _, _, _, _, _, _, rfl, ?_⟩
        rw [hset 6]
        exact H.s6
      · obtain rfl := H.a6 (getD_tt hi2.2)
        refine wpOpIn_k fun K hK => wpOpIn_at rfl rfl ?_
        go_simp
        refine hK _ _ ⟨by simpa using hsz, _, _, _, _, _, _, _, _, _, rfl, ?_⟩
        rw [hset 7]
        exact H.s7
      · have hL := getD_ff hi2.1
        have h4 := getD_tt hi2.2.1
        have h7 := getD_tt hi2.2.2.1
        have h3 := getD_tt hi2.2.2.2
        obtain rfl := H.a4 h4
        obtain ⟨q, rfl, hq, hq8⟩ := H.a7 h7 hL
        obtain ⟨i0, hi, hz0, hz1, hz2⟩ := info_parts Tryd.infoBoolR
        refine wpOpIn_k fun K hK => wpOpIn_at rfl rfl ?_
        refine oper_append_own w' _ _ 28 rfl (h + 8) 4 i0 (.bool false) 1 1 Tryd.underlying28 hi hz0 hz1 hz2 rfl (by decide) _ pre.length (bVals pre) rfl (H.r2 hL) ⟨q, 0, none⟩ 1 1 [.bool (recB (p1, p2))] rfl rfl (fun j u hj => by
          cases j with
          | zero => cases hj; rw [Addr.add_lit, Lib.cell_of_heap hq]; rfl
          | succ j => simp at hj) (by simp [Value.oneCell']) (by unfold maxLen; omega) (by omega) H.size (fun v' w2 r1 r2 => ?_)
        refine hK _ _ ⟨by simpa using hsz, _, _, _, _, _, _, _, _, _, rfl, ?_⟩
        rw [hset 8]
        exact H.s8 hL ⟨h3, h4, h7⟩ r1 r2
      · have hL := getD_ff hi2.1
        have h8 := getD_tt hi2.2.2.1
        obtain ⟨a3, l3, c3, rfl⟩ := own_sl (H.r1y (H.d8 h8).1)
        have c := (H.b1 hL).cell
        have f := (H.b1 hL).frozen
        refine wpOpIn_k fun K hK => wpOpIn_at rfl rfl ?_
        go_simp
        refine hK _ _ ⟨by simpa using hsz, _, _, _, _, _, _, _, _, _, rfl, ?_⟩
        rw [hset 9]
        exact H.s9 hL h8
      · have hL := getD_ff hi2.1
        have h8 := getD_tt hi2.2.1
        have h9 := getD_tt hi2.2.2.1
        obtain ⟨a4, l4, c4, rfl⟩ := own_sl (H.r2y h8)
        have c := (H.b2 hL).cell
        have f := (H.b2 hL).frozen
        refine wpOpIn_k fun K hK => wpOpIn_at rfl rfl ?_
        go_simp
        refine hK _ _ ⟨by simpa using hsz, _, _, _, _, _, _, _, _, _, rfl, ?_⟩
        rw [hset 10]
        exact H.s10 hL h8 h9
    case fin =>
      rintro listed a w' ⟨hsz, u31, u32, u33, u34, u35, u36, u37, u38, u39, rfl, H⟩ hr
      have e0 := open_done (j := 0) hr (fun e => by
        have e' := open_ff e
        unfold Region.ready
        rw [List.mem_filter, List.mem_range]
        exact ⟨by decide, by simp [Region.binds, e']⟩)
      have t0 := getD_in hsz (by decide) e0
      have e1 := open_done (j := 1) hr (fun e => by
        have e' := open_ff e
        unfold Region.ready
        rw [List.mem_filter, List.mem_range]
        exact ⟨by decide, by simp [Region.binds, e']⟩)
      have t1 := getD_in hsz (by decide) e1
      have e2 := open_done (j := 2) hr (fun e => by
        have e' := open_ff e
        unfold Region.ready
        rw [List.mem_filter, List.mem_range]
        exact ⟨by decide, by simp [Region.binds, e', t1]⟩)
      have t2 := getD_in hsz (by decide) e2
      have e3 := open_done (j := 3) hr (fun e => by
        have e' := open_ff e
        unfold Region.ready
        rw [List.mem_filter, List.mem_range]
        exact ⟨by decide, by simp [Region.binds, e', t0, t2]⟩)
      have t3 := getD_in hsz (by decide) e3
      have e4 := open_done (j := 4) hr (fun e => by
        have e' := open_ff e
        unfold Region.ready
        rw [List.mem_filter, List.mem_range]
        exact ⟨by decide, by simp [Region.binds, e']⟩)
      have t4 := getD_in hsz (by decide) e4
      have e5 := open_done (j := 5) hr (fun e => by
        have e' := open_ff e
        unfold Region.ready
        rw [List.mem_filter, List.mem_range]
        exact ⟨by decide, by simp [Region.binds, e']⟩)
      have t5 := getD_in hsz (by decide) e5
      have e6 := open_done (j := 6) hr (fun e => by
        have e' := open_ff e
        unfold Region.ready
        rw [List.mem_filter, List.mem_range]
        exact ⟨by decide, by simp [Region.binds, e', t5]⟩)
      have t6 := getD_in hsz (by decide) e6
      have e7 := open_done (j := 7) hr (fun e => by
        have e' := open_ff e
        unfold Region.ready
        rw [List.mem_filter, List.mem_range]
        exact ⟨by decide, by simp [Region.binds, e', t6]⟩)
      have t7 := getD_in hsz (by decide) e7
      have e8 := open_done (j := 8) hr (fun e => by
        have e' := open_ff e
        unfold Region.ready
        rw [List.mem_filter, List.mem_range]
        exact ⟨by decide, by simp [Region.binds, e', t4, t7, t3]⟩)
      have t8 := getD_in hsz (by decide) e8
      have e9 := open_done (j := 9) hr (fun e => by
        have e' := open_ff e
        unfold Region.ready
        rw [List.mem_filter, List.mem_range]
        exact ⟨by decide, by simp [Region.binds, e', t3, t8, t0, t1, t2]⟩)
      have t9 := getD_in hsz (by decide) e9
      have e10 := open_done (j := 10) hr (fun e => by
        have e' := open_ff e
        unfold Region.ready
        rw [List.mem_filter, List.mem_range]
        exact ⟨by decide, by simp [Region.binds, e', t8, t9, t0, t1, t2, t3, t4, t5, t6, t7]⟩)
      have t10 := getD_in hsz (by decide) e10
      have hdr : Below wc.heap.size wc wc.drew := below_drewN (Below.refl _ _) 1
      have hlow : ∀ k, k < h + 8 → k ≠ h + 3 → k ≠ h + 4 → w'.heap[k]? = wc.heap[k]? := H.low
      have hsz8 := hI.size
      have hfin : KeepsOthers wc w' ∧ MrkK (h + 5) wc w' ∧ RecIn w h (pre ++ [(p1, p2)]) w' := by
        refine ⟨(keeps_below hdr).trans H.kept, fun k k1 k2 => hlow k (by omega) (by omega) (by omega), ?_⟩
        have hbw : Below h w w' := hI.bel.trans ⟨H.os.1, H.os.2.1, H.os.2.2, Nat.le_trans (keeps_below hdr).size H.kept.size, fun k hk => hlow k (by omega) (by omega) (by omega)⟩
        refine ⟨hbw, H.size, (hlow _ (by omega) (by omega) (by omega)).trans hI.r6, (hlow _ (by omega) (by omega) (by omega)).trans hI.r7, (hlow _ (by omega) (by omega) (by omega)).trans hI.r8, ⟨u34, H.b1y e9, ?_⟩, ⟨u39, H.b2y e10, ?_⟩⟩
        · rw [wVals_snoc, List.length_append]; exact H.r1y e3
        · rw [bVals_snoc, List.length_append]; exact H.r2y e8
      dsimp only
      gi_wp2
      exact hfin
  case done =>
    intro D xs W hD hS hI hK
    dsimp only
    subst hS
    obtain ⟨v, hv, hrow⟩ := hI.words
    obtain ⟨u, hu, hrow2⟩ := hI.whole
    obtain ⟨va, vl, vc, rfl⟩ := own_sl hrow
    obtain ⟨ua, ul, uc, rfl⟩ := own_sl hrow2
    have hsz := hI.size
    have c3 := hv.cell
    have c4 := hu.cell
    rw [HS.out] at hD
    gi_upto_region 14 with fail
    gi_cut [] from 60 (fun wr => Below h w wr ∧ wr.heap[D]? = some (.deferred (some [])) ∧ Boxed wr h 24 (.slice va vl vc) ∧ Boxed wr (h + 1) 28 (.slice ua ul uc) ∧ Boxed wr (h + 2) 25 (.int .i64 0) ∧ wr.ownsRow (h + 8) 9 1 (.slice va vl vc) (blk b m x).length (wVals (blk b m x)) ∧ wr.ownsRow (h + 8) 4 1 (.slice ua ul uc) (blk b m x).length (bVals (blk b m x)))
    case first =>
      rename_i CJ CK hCJ hCK
      have hdr : Below W.heap.size W W.drew := below_drewN (Below.refl _ _) 1
      have b6 : Boxed W.drew h 24 (.slice none 0 0) := hI.r6
      have b7 : Boxed W.drew (h + 1) 28 (.slice none 0 0) := hI.r7
      have b8 : Boxed W.drew (h + 2) 25 (.int .i64 0) := hI.r8
      have c6 := hI.r6.cell
      have f6 := hI.r6.frozen
      have c7w := hI.r7.cell
      have f7w := hI.r7.frozen
      have c8w := hI.r8.cell
      have f8w := hI.r8.frozen
      have b71 := boxed_far b7 (g := h) (by omega) (.slice va vl vc)
      have c7 := b71.cell
      have f7 := b71.frozen
      have b81 := boxed_far (boxed_far b8 (g := h) (by omega) (.slice va vl vc)) (g := h + 1) (by omega) (.slice ua ul uc)
      have c8 := b81.cell
      have f8 := b81.frozen
      have hK3 : (((W.drew.setCell ⟨h, 0, none⟩ (.slice va vl vc)).setCell ⟨h + 1, 0, none⟩ (.slice ua ul uc)).setCell ⟨h + 1 + 1, 0, none⟩ (.int .i64 0)).heap[D]? = some (.deferred (some [])) :=
        (Below.heap_setCell _ _ _ D (by show D ≠ h + 1 + 1; omega)).trans ((Below.heap_setCell _ _ _ D (by show D ≠ h + 1; omega)).trans ((Below.heap_setCell _ _ _ D (by show D ≠ h; omega)).trans hK))
      have HPost := hid (And.intro ((((hI.bel.trans (hdr.mono (by omega))).setCell (p := ⟨h, 0, none⟩) (Nat.le_refl _) (.slice va vl vc)).setCell (p := ⟨h + 1, 0, none⟩) (by show h ≤ h + 1; omega) (.slice ua ul uc)).setCell (p := ⟨h + 1 + 1, 0, none⟩) (by show h ≤ h + 1 + 1; omega) (.int .i64 0))
        (And.intro hK3 (And.intro (boxed_far (boxed_far (b6.set (.slice va vl vc)) (g := h + 1) (by omega) (.slice ua ul uc)) (g := h + 1 + 1) (by omega) (.int .i64 0))
          (And.intro (boxed_far (b71.set (.slice ua ul uc)) (g := h + 1 + 1) (by omega) (.int .i64 0)) (And.intro (b81.set (.int .i64 0))
          (And.intro (ownsRow_setCell_below (ownsRow_setCell_below (ownsRow_setCell_below (own_below hrow hdr) (a := ⟨h, 0, none⟩) (by show h < h + 8; omega) (.slice va vl vc)) (a := ⟨h + 1, 0, none⟩) (by show h + 1 < h + 8; omega) (.slice ua ul uc)) (a := ⟨h + 1 + 1, 0, none⟩) (by show h + 1 + 1 < h + 8; omega) (.int .i64 0))
          (ownsRow_setCell_below (ownsRow_setCell_below (ownsRow_setCell_below (own_below hrow2 hdr) (a := ⟨h, 0, none⟩) (by show h < h + 8; omega) (.slice va vl vc)) (a := ⟨h + 1, 0, none⟩) (by show h + 1 < h + 8; omega) (.slice ua ul uc)) (a := ⟨h + 1 + 1, 0, none⟩) (by show h + 1 + 1 < h + 8; omega) (.int .i64 0))))))))
      clear hI hv hu hrow hrow2 b6 b7 b8 b71 b81 hK3 hK hdr
      gi_region_with (fail)
      all_goals (exact hCK _ _ (Met.intro (hCJ _ _ (by (repeat apply Exists.intro); exact ⟨HPost.out, rfl⟩))))
    obtain ⟨hbl, hKc, B6, B7, B8, o1, o2⟩ := hcut
    gi_wp2
    refine ⟨by simp, .inl ⟨_, _, rfl, run_takeDeferred hKc, ?_⟩⟩
    refine ⟨.tuple #[.slice va vl vc, .slice ua ul uc, .int .i64 0], ?_, _, _, rfl, ?_, own_base (ownsRow_putObj o1 _ hKc rfl) (by omega), own_base (ownsRow_putObj o2 _ hKc rfl) (by omega)⟩
    · have e6 := (boxed_put B6 (l := D) (by omega) (.deferred none)).cell
      have e7 := (boxed_put B7 (l := D) (by omega) (.deferred none)).cell
      have e8 := (boxed_put B8 (l := D) (by omega) (.deferred none)).cell
      simp [results, Tryd.f6, go_sem, e6, e7, e8]
    · exact hbl.trans ⟨rfl, rfl, rfl, by simp, fun g hg => World.putObj_heap_other (by omega)⟩
  case stop =>
    intro D c pre W hD hSp hI hK
    exact hI.elim
end Go.Proofs.YtobbinppkjmhhaaDoor
