/-
  watermark.Sparse and watermark.Add.
  Words of at most 256 letters, over two letters.
-/
import Derived.Test.YtcobdmenigpipaaGreatDoorWatExt
import Derived.Test.YtcobdmenigpipaaGreatDoorEncMainF
namespace Go.Proofs.YtcobdmenigpipaaGreatDoor
open Go.RowKit Go.Deep
set_option linter.unusedVariables false
set_option linter.unusedSimpArgs false

/-- The word with a letter 1 at some offsets. -/
def spF (l : List Int) (m : Nat) : UInt8 := if (m : Int) ∈ l then 49 else 48
def spW (n : Nat) (l : List Int) : List UInt8 := (List.range n).map (spF l)
theorem spF_take {l : List Int} {j : Nat} {x : Nat} (h : l[j]? = some (x : Int)) (m : Nat) : (if m = x then 49 else spF (l.take j) m) = spF (l.take (j + 1)) m := by
  unfold spF
  have hm : (m : Int) ∈ l.take (j + 1) ↔ ((m : Int) ∈ l.take j ∨ m = x) := by
    rw [take_snoc h, List.mem_append, List.mem_singleton]
    constructor
    · rintro (h | h)
      · exact .inl h
      · exact .inr (by omega)
    · rintro (h | h)
      · exact .inl h
      · exact .inr (by omega)
  by_cases e : m = x
  · rw [if_pos e, if_pos (hm.2 (.inr e))]
  · by_cases e2 : (m : Int) ∈ l.take j
    · rw [if_neg e, if_pos e2, if_pos (hm.2 (.inl e2))]
    · rw [if_neg e, if_neg e2, if_neg (fun h => (hm.1 h).elim e2 e)]
def AscZ (l : List Int) : Prop := ∀ (j : Nat) (x y : Int), l[j]? = some x → l[j + 1]? = some y → x < y
set_option maxRecDepth 100000 in
set_option maxHeartbeats 2000000 in
theorem sparse_any (n : Nat) (l : List Int) (v : Value) (w : World) (hn : n ≤ 1000) (hl : Sl 1 w v l.length (ints l)) (hr : ∀ x ∈ l, 0 ≤ x ∧ x < n) (ha : AscZ l) (hll : l.length ≤ 1000) :
    Calls Tryz.prog 7 #[.int .i64 (n : Int), v] w fun e w' => e = .returned (.tuple #[.string ⟨(spW n l).toArray⟩, .int .i64 0]) ∧ Below w.heap.size w w' := by
  have HL := hid hl
  have HR := hid hr
  have HA := hid ha
  have HRp := hid (fun X => Tryz.strings_Repeat ⟨#[48]⟩ n X (by omega) (by show 1 * n ≤ _; omega))
  have hz : (⟨(Lib.repeatL (⟨#[48]⟩ : ByteArray).data.toList n).toArray⟩ : ByteArray) = ⟨(List.replicate n 48).toArray⟩ := by
    congr 2
    exact rep_zeros n
  rw [hz] at HRp
  obtain ⟨ao, cap, rfl, _, hcap, hcap2, _⟩ := hl
  have HZs := hid (show (⟨(List.replicate n 48).toArray⟩ : ByteArray).size = n by show (List.toArray _).size = n; simp)
  have HCv := hid (fun X => conv_row X ⟨(List.replicate n 48).toArray⟩ (by rw [HZs.out]; unfold maxLen; omega) (fun _ => 48) (fun m hm => by
    rw [HZs.out] at hm
    show (List.replicate n 48).toArray.toList[m]? = _
    simp [hm]))
  rw [HZs.out] at HCv
  clear hz hr ha
  generalize (⟨(List.replicate n 48).toArray⟩ : ByteArray) = Z at *
  go_enter Tryz.func7, Tryz.ntmps7
  have hnI : ¬ (n : Int) < 0 := by omega
  have hnJ : ¬ (65536 : Int) < (n : Int) := by omega
  go_upto_region 3 with fail
  go_upto_region 5 with (go_at_call 21; refine (HRp.out _).mono ?_; rintro e w1 ⟨rfl, hb1⟩; obtain ⟨w2, cp, hconv, hb2, hc1, hc2, hrow⟩ := HCv.out w1; have HB12 := hid (bel_step hb1 hb2); have HB1s := hid hb1.size; have HRow := hid hrow; clear hb1 hb2 hrow)
  have HGe := hid (show w.heap.size ≤ w1.heap.size from HB1s.out)
  have hncp : n ≤ cp := hc1
  have hcpm : cp ≤ maxLen := hc2
  unfold maxLen at hcpm
  clear hconv HRp HCv hc1 hc2
  generalize w1.heap.size = G at *
  go_loopw [20] (fun i wr => ∃ j : Nat, j ≤ l.length ∧ i = .int .i64 (j : Int) ∧ Hid (BRow wr G n (spF (l.take j))) ∧ Hid (Below w.heap.size w wr)) (fun i _ => l.length - (intOf i).toNat)
  case atStart => exact ⟨0, Nat.zero_le _, rfl, hid (HRow.out.congr (fun m hm => by simp [spF])), HB12⟩
  case round =>
    obtain ⟨j, hj, rfl, HRw, HB⟩ := hrel
    rename World => wk
    by_cases hlt : j < l.length
    · obtain ⟨x, hx⟩ := some_of_lt hlt
      have hxr := HR.out x (List.mem_of_getElem? hx)
      obtain ⟨m, rfl⟩ : ∃ m : Nat, x = (m : Int) := ⟨x.toNat, by omega⟩
      obtain ⟨bu, ou, rfl, cx⟩ := (HL.out.below HB.out).cell (k := j) (x := .int .i64 (m : Int)) (by rw [ints, List.getElem?_map, hx]; rfl)
      have hmn : m < n := by omega
      have hmI : (m : Int) < (n : Int) := by omega
      have hm0 : ¬ (m : Int) < 0 := by omega
      have hmJ : ¬ (n : Int) ≤ (m : Int) := by omega
      have hjI : (j : Int) < (l.length : Int) := by omega
      obtain ⟨k1, k2⟩ := HRw.out.cell hmn
      have HR2 := hid (HRw.out.set m 49)
      have HR3 := hid (HR2.out.congr (f' := spF (l.take (j + 1))) (fun q _ => spF_take hx q))
      have HB2 := hid (HB.out.setCell (p := ⟨G, m, none⟩) HGe.out (.int .u8 49))
      have hk1 : j + 1 ≤ l.length := hlt
      have hms : l.length - (j + 1) < l.length - j := by omega
      cases j with
      | zero =>
        have cx : wk.cell? ⟨bu, ou, none⟩ = some (.int .i64 (m : Int)) := cx
        clear hx hxr
        go_wp2
        go_roundw
        case rel => exact ⟨1, hk1, rfl, HR3, HB2⟩
        case measure => exact hms
      | succ j =>
        obtain ⟨y, hy⟩ := some_of_lt (show j < l.length by omega)
        have hyx := HA.out j y _ hy hx
        obtain ⟨bv, ov, hbv, cy⟩ := (HL.out.below HB.out).cell (k := j) (x := .int .i64 y) (by rw [ints, List.getElem?_map, hy]; rfl)
        simp only [Option.some.injEq, Addr.mk.injEq, and_true] at hbv
        obtain ⟨rfl, rfl⟩ := hbv
        have cy : wk.cell? ⟨bu, ou + j, none⟩ = some (.int .i64 y) := by simpa using cy
        have hle : ¬ (m : Int) ≤ y := by omega
        have hj1 : ((j + 1 : Nat) : Int) - 1 = (j : Int) := by omega
        have hj2 : (0 : Int) < ((j + 1 : Nat) : Int) := by omega
        have hj3 : (j : Int) < (l.length : Int) := by omega
        clear hx hy hxr
        go_wp2
        go_roundw
        case rel => exact ⟨j + 2, hk1, rfl, HR3, HB2⟩
        case measure => exact hms
    · have HT := hid (show l.take j = l by rw [take_all (by omega)])
      have hjI : ¬ (j : Int) < (l.length : Int) := by omega
      have hcv := conv_str wk G n cp (spF l) (by rw [← HT.out]; exact HRw.out)
      have hcv : (convert 22 9 (.slice (some ⟨G, 0, none⟩) n cp)).run Tryz.prog wk = .ok (.string ⟨(spW n l).toArray⟩) wk := hcv
      go_wp2
      go_ret2
      exact ⟨rfl, HB.out⟩
/-- The bitwise sum of two letters. -/
theorem xor_two {a c : UInt8} (ha : a = 48 ∨ a = 49) (hc : c = 48 ∨ c = 49) : ∃ X : Int, bits .xor .u8 (c.toNat : Int) (a.toNat : Int) = X ∧ bits .and .u8 X 1 = (dif8 a c : Int) := by
  rcases ha with rfl | rfl <;> rcases hc with rfl | rfl <;> exact ⟨_, rfl, by kernel_rfl⟩
def BinW (s : ByteArray) : Prop := ∀ x ∈ s.data.toList, x = 48 ∨ x = 49
set_option maxRecDepth 100000 in
set_option maxHeartbeats 2000000 in
theorem wadd_any (A B : ByteArray) (w : World) (hn : A.size ≤ 1000) (hl : A.size = B.size) (hA : wordErr 2 A = 0) (hB : wordErr 2 B = 0) (hA2 : BinW A) (hB2 : BinW B) :
    Calls Tryz.prog 8 #[.string A, .string B] w fun e w' => e = .returned (.tuple #[.string ⟨(difW A.data.toList B.data.toList).toArray⟩, .int .i64 0]) ∧ Below w.heap.size w w' := by
  have hlA : A.data.toList.length = A.size := by simp
  have hlB : B.data.toList.length = B.size := by simp
  have HCk := hid (fun X => wck_ok A B X hA hB)
  obtain ⟨fB, hfB⟩ : ∃ f : Nat → UInt8, ∀ m, m < B.size → B.data.toList[m]? = some (f m) := ⟨fun m => B.data.toList.getD m 0, fun m hm => by
    obtain ⟨x, hx⟩ := some_of_lt (show m < B.data.toList.length by omega)
    show _ = some (B.data.toList.getD m 0)
    rw [List.getD_eq_getElem?_getD, hx]; rfl⟩
  have HCv := hid (fun X => conv_row X B (by unfold maxLen; omega) fB hfB)
  have HFB := hid (fun (m : Nat) (hm : m < B.size) => hfB m hm)
  have HB2 := hid (fun (m : Nat) (hm : m < B.size) => hB2 _ (List.mem_of_getElem? (hfB m hm)))
  have HSA := hid (fun (m : Nat) (h : m < A.size) => (show ∃ a, A.data.toList[m]? = some a ∧ (a = 48 ∨ a = 49) from by
    obtain ⟨a, ha⟩ := some_of_lt (show m < A.data.toList.length by omega)
    exact ⟨a, ha, hA2 a (List.mem_of_getElem? ha)⟩))
  have HFin := hid (fun (f : Nat → UInt8) (hf : ∀ m, m < A.size → ∃ a c, A.data.toList[m]? = some a ∧ B.data.toList[m]? = some c ∧ f m = UInt8.ofNat (48 + dif8 a c)) => (show (List.range A.size).map f = difW A.data.toList B.data.toList from by
    apply List.ext_getElem?
    intro m
    by_cases hm : m < A.size
    · obtain ⟨a, c, ha, hc, he⟩ := hf m hm
      rw [difW, List.getElem?_zipWith, ha, hc, List.getElem?_map, List.getElem?_range hm]
      simp [he]
    · rw [List.getElem?_eq_none (by simp; omega), List.getElem?_eq_none (by rw [difW_len (by omega)]; omega)]))
  have hneI : ((A.size : Int) != (B.size : Int)) = false := by simp; omega
  have hneJ : ((A.size : Int) == (B.size : Int)) = true := by simp; omega
  clear hA hB hA2 hB2 hlA hlB hfB
  generalize difW A.data.toList B.data.toList = D at *
  go_enter Tryz.func8, Tryz.ntmps8
  go_upto_region 6 with (go_at_call 22; refine (HCk.out _).mono ?_; rintro e w1 ⟨rfl, h1⟩)
  have hb1 := h1.below w.heap.size
  have hs1 : w1.heap.size = w.heap.size := by obtain ⟨q, rfl⟩ := h1; simp
  clear h1
  obtain ⟨w2, cp, hconv, hb2, hc1, hc2, hrow⟩ := HCv.out w1
  have HB12 := hid (hb1.trans (hb2.mono (by omega)))
  rw [hs1] at hconv hrow
  have HRow := hid hrow
  have hncp : B.size ≤ cp := hc1
  have hcpm : cp ≤ maxLen := hc2
  unfold maxLen at hcpm
  go_upto_region 8 with fail
  clear hconv hc1 hc2 hb1 hs1 hb2 hrow HCk HCv
  generalize hGG : w.heap.size = G at *
  have HGG := hid hGG
  clear hGG
  go_loopw [24] (fun i wr => ∃ (j : Nat) (f : Nat → UInt8), j ≤ A.size ∧ i = .int .i64 (j : Int) ∧ Hid (BRow wr G B.size f) ∧ Hid (Below G w wr) ∧ Hid (∀ m, j ≤ m → m < B.size → f m = fB m) ∧ Hid (∀ m, m < j → ∃ a c, A.data.toList[m]? = some a ∧ B.data.toList[m]? = some c ∧ f m = UInt8.ofNat (48 + dif8 a c))) (fun i _ => A.size - (intOf i).toNat)
  case atStart => exact ⟨0, fB, Nat.zero_le _, rfl, HRow, HB12, hid (fun _ _ _ => rfl), hid (fun m h => by omega)⟩
  case round =>
    obtain ⟨j, f, hj, rfl, HRw, HB, HF1, HF2⟩ := hrel
    rename World => wk
    by_cases hlt : j < A.size
    · obtain ⟨a, ha, haa⟩ := HSA.out j hlt
      have hjB : j < B.size := by omega
      have hcc := HB2.out j hjB
      have hfj := HF1.out j (Nat.le_refl _) hjB
      obtain ⟨k1, k2⟩ := HRw.out.cell hjB
      rw [hfj] at k1
      have hc := HFB.out j hjB
      generalize fB j = c at *
      have ga := byteW ha hlt
      obtain ⟨X, hx1, hx2⟩ := xor_two haa hcc
      have hw8 : IntKind.u8.wrap (48 + (dif8 a c : Int)) = ((UInt8.ofNat (48 + dif8 a c)).toNat : Int) := by
        rcases dif_two a c with h | h <;> rw [h] <;> rfl
      have HR2 := hid (HRw.out.set j (UInt8.ofNat (48 + dif8 a c)))
      have HBs := hid (fun v => HB.out.setCell (p := ⟨G, j, none⟩) (Nat.le_refl _) v)
      have HG1 := hid (fun m (h1 : j + 1 ≤ m) (h2 : m < B.size) => (show (if m = j then UInt8.ofNat (48 + dif8 a c) else f m) = fB m by rw [if_neg (by omega)]; exact HF1.out m (by omega) h2))
      have HG2 := hid (fun m (h1 : m < j + 1) => (show ∃ a' c', A.data.toList[m]? = some a' ∧ B.data.toList[m]? = some c' ∧ (if m = j then UInt8.ofNat (48 + dif8 a c) else f m) = UInt8.ofNat (48 + dif8 a' c') by
        by_cases e : m = j
        · subst e; exact ⟨a, c, ha, hc, by rw [if_pos rfl]⟩
        · rw [if_neg e]; exact HF2.out m (by omega)))
      have hjI : (j : Int) < (A.size : Int) := by omega
      have hjJ : (j : Int) < (B.size : Int) := by omega
      have hk1 : j + 1 ≤ A.size := hlt
      have hms : A.size - (j + 1) < A.size - j := by omega
      clear ha hc haa hcc hfj
      generalize UInt8.ofNat (48 + dif8 a c) = Y at *
      generalize dif8 a c = d at *
      go_upto_region 10 with fail
      go_region
      all_goals go_wp2
      all_goals go_roundw
      all_goals (try case rel => exact ⟨j + 1, _, hk1, rfl, hid (HR2.out.of_block rfl), hid ((HBs.out _).trans (below_drewN (Below.refl _ _) 1)), HG1, HG2⟩)
      all_goals (try case measure => exact hms)
    · have hjI : ¬ (j : Int) < (B.size : Int) := by omega
      have hD := HFin.out f (fun m hm => HF2.out m (by omega))
      have hcv0 := conv_str wk G B.size cp f HRw.out
      have hcv : (convert 22 9 (.slice (some ⟨G, 0, none⟩) B.size cp)).run Tryz.prog wk = .ok (.string ⟨D.toArray⟩) wk := by rw [hcv0, ← hl, hD]; rfl
      clear hD hcv0
      go_wp2
      go_ret2
      exact ⟨rfl, by rw [HGG.out]; exact HB.out⟩
end Go.Proofs.YtcobdmenigpipaaGreatDoor
