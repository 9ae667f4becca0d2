/-
  The place of an operation in the table, by its word (slices.IndexFunc with program.Parse's inner function).
  The table lies in its block, the word in its box.
-/
import Derived.Test.YtmabciajhmjmeaaGreatDoorPrPrint
import Derived.Test.YtmabciajhmjmeaaGreatDoorInsTxt
namespace Go.Proofs.YtmabciajhmjmeaaGreatDoor
open Go.RowKit
set_option linter.unusedVariables false

theorem opWs_list (op : Int) : (opWs op).data.toList = opWL op := by
  unfold opWs opWL
  split; rfl; split; rfl; split; rfl; split; rfl; rfl
theorem bnil (x : ByteArray) : (x.toList == []) = decide (x.data.toList = []) := by
  rw [Lib.toList_data]
  cases x.data.toList <;> rfl
theorem bne_of {x y : ByteArray} (h : x ≠ y) : (x.toList == y.toList) = false := by
  rw [beq_eq_false_iff_ne, Lib.toList_data, Lib.toList_data]
  exact fun e => h (ByteArray.ext (Array.toList_inj.1 e))
set_option maxHeartbeats 1000000 in
theorem prs1_any (B : Nat) (x wd : ByteArray) (k : Int) (fv : Value) (w : World) (hf : fv.oneCell' = true) (hB : w.cell? ⟨B, 0, none⟩ = some (.string wd)) :
    Calls Tryz.prog 29 #[.agg #[.string x, .int .i64 k, fv], .pointer (some ⟨B, 0, none⟩)] w fun e w' => e = .returned (.bool (decide (x = wd) && !decide (wd.data.toList = []))) ∧ Below w.heap.size w w' := by
  have hw : ∃ w0, w.alloc (.cells #[.string x, .int .i64 k, fv] 53) = w0 ∧ Below w.heap.size w w0 ∧ w0.cell? ⟨B, 0, none⟩ = some (.string wd) ∧ w0.cell? ⟨w.heap.size, 0, none⟩ = some (.string x) :=
    ⟨_, rfl, bel_alloc _ _, keeps (bel_alloc _ _) hB, by simp⟩
  obtain ⟨w0, hw0, hb0, c1, c2⟩ := hw
  have HB0 := hid hb0
  clear hb0
  by_cases h1 : x = wd
  · subst h1
    by_cases h2 : x.data.toList = []
    · have e1 : (x.toList == []) = true := by rw [bnil]; simp [h2]
      rw [show (decide (x = x) && !decide (x.data.toList = [])) = false by simp [h2]]
      clear h2
      go_enter Tryz.func29, Tryz.ntmps29
      go_upto_region 1 with fail
      go_wp2
      go_ret
      exact ⟨rfl, HB0.out⟩
    · have e1 : (x.toList == []) = false := by rw [bnil]; simp [h2]
      rw [show (decide (x = x) && !decide (x.data.toList = [])) = true by simp [h2]]
      clear h2
      go_enter Tryz.func29, Tryz.ntmps29
      go_upto_region 1 with fail
      go_wp2
      go_ret
      exact ⟨rfl, HB0.out⟩
  · have e1 := bne_of h1
    rw [show (decide (x = wd) && !decide (wd.data.toList = [])) = false by simp [h1]]
    clear h1
    go_enter Tryz.func29, Tryz.ntmps29
    go_upto_region 1 with fail
    go_wp2
    go_ret
    exact ⟨rfl, HB0.out⟩
/-- Where a word stands in the table; 6 if it does not. -/
def ixW (l : List UInt8) : Nat := if opOf l = 0 then 6 else (opOf l).toNat
def ixO (l : List UInt8) : Int := if opOf l = 0 then -1 else opOf l
def opWk (k : Nat) : ByteArray := if k = 0 then ⟨#[]⟩ else opWs (k : Int)
def opFv (k : Nat) : Value := if k = 0 then .nilFunc else .func (.func (opF k)) #[] #[]
def opNk (k : Nat) : Int := if k = 0 then 0 else usedN k
theorem ixW_le (l : List UInt8) : ixW l ≤ 6 := by
  unfold ixW
  split
  · exact Nat.le_refl _
  · rename_i h
    have := opOf_some h
    omega
theorem ixW_hit {l : List UInt8} (h : ixW l < 6) : (opWk (ixW l)).data.toList = l ∧ l ≠ [] ∧ ixO l = (ixW l : Int) := by
  unfold ixW at h ⊢
  by_cases h0 : opOf l = 0
  · rw [if_pos h0] at h; omega
  · obtain ⟨h1, h5, hw⟩ := opOf_some h0
    rw [if_neg h0] at h ⊢
    have e : (((opOf l).toNat : Nat) : Int) = opOf l := by omega
    refine ⟨?_, ?_, ?_⟩
    · rw [opWk, if_neg (by omega), e, opWs_list]; exact hw.symm
    · intro e2; rw [e2] at h0; exact h0 rfl
    · rw [ixO, if_neg h0, e]
theorem ixW_miss {l : List UInt8} {k : Nat} (h : k < ixW l) (h6 : k < 6) : (decide (opWk k = ⟨l.toArray⟩) && !decide (l = [])) = false := by
  by_cases hk : k = 0
  · subst hk
    by_cases hl : l = []
    · simp [hl]
    · have : ¬ opWk 0 = ⟨l.toArray⟩ := by
        intro e
        have := congrArg (fun b : ByteArray => b.data.toList) e
        exact hl (by simpa [opWk] using this.symm)
      simp [this]
  · have : ¬ opWk k = ⟨l.toArray⟩ := by
      intro e
      have e2 : opWL (k : Int) = l := by
        have := congrArg (fun b : ByteArray => b.data.toList) e
        rw [opWk, if_neg hk] at this
        simp only [opWs_list] at this
        simpa using this
      have h3 := (opOf_word (op := (k : Int)) (by omega) (by omega)).1
      rw [e2] at h3
      unfold ixW at h
      rw [h3] at h
      rw [if_neg (by omega)] at h
      omega
    simp [this]
theorem Ops.row {w : World} {g k : Nat} (h : Ops w g) (hk : k < 6) : w.cell? ⟨g, k * 3, none⟩ = some (.string (opWk k)) ∧ w.cell? ⟨g, k * 3 + 1, none⟩ = some (.int .i64 (opNk k)) ∧ w.cell? ⟨g, k * 3 + 2, none⟩ = some (opFv k) := by
  have : k = 0 ∨ k = 1 ∨ k = 2 ∨ k = 3 ∨ k = 4 ∨ k = 5 := by omega
  refine ⟨h.at' ?_, h.at' ?_, h.at' ?_⟩ <;> rcases this with rfl | rfl | rfl | rfl | rfl | rfl <;> rfl
theorem opFv_one (k : Nat) : (opFv k).oneCell' = true := by
  unfold opFv
  split <;> rfl
set_option maxRecDepth 100000 in
set_option maxHeartbeats 2000000 in
theorem index_any (B g : Nat) (wd : ByteArray) (w : World) (hO : Ops w g) (hg : g < w.heap.size) (hB : w.cell? ⟨B, 0, none⟩ = some (.string wd)) :
    Calls Tryz.prog 28 #[.slice (some ⟨g, 0, none⟩) 6 6, .func (.func 29) #[] #[.pointer (some ⟨B, 0, none⟩)]] w fun e w' => e = .returned (.int .i64 (ixO wd.data.toList)) ∧ Below w.heap.size w w' := by
  have HO := hid hO
  have HBx := hid hB
  have hsb : (⟨wd.data.toList.toArray⟩ : ByteArray) = wd := by apply ByteArray.ext; simp
  have HMs := hid (fun k h h6 => ixW_miss (l := wd.data.toList) (k := k) h h6)
  rw [hsb] at HMs
  have HHt := hid (ixW_hit (l := wd.data.toList))
  have HLe := hid (ixW_le wd.data.toList)
  have HNo : Hid (ixW wd.data.toList = 6 → ixO wd.data.toList = -1) := hid (fun h => by
    unfold ixW at h
    split at h
    · rename_i h0; rw [ixO, if_pos h0]
    · rename_i h0
      have := opOf_some h0
      omega)
  have HHw := hid (fun h => (show opWk (ixW wd.data.toList) = wd ∧ ¬ wd.data.toList = [] ∧ ixO wd.data.toList = (ixW wd.data.toList : Int) from ⟨ByteArray.ext (Array.toList_inj.1 (HHt.out h).1), (HHt.out h).2⟩))
  clear HHt hsb hO hB
  generalize hX : ixO wd.data.toList = X at *
  generalize ixW wd.data.toList = I at *
  have HgS := hid hg
  go_enter Tryz.func28, Tryz.ntmps28
  go_wp2_with fail
  go_loopw [8] (fun i wr => ∃ k : Nat, k ≤ I ∧ i = .int .i64 (k : Int) ∧ Hid (Below w.heap.size w wr)) (fun i _ => 6 - (intOf i).toNat)
  case atStart => exact ⟨0, Nat.zero_le _, rfl, hid (Below.refl _ _)⟩
  case round =>
    obtain ⟨k, hk, rfl, HB⟩ := hrel
    rename World => wk
    have hle := HLe.out
    by_cases hk6 : k < 6
    · have HOk := hid (HO.out.below HB.out HgS.out)
      obtain ⟨r0, r1, r2⟩ := HOk.out.row hk6
      have hB2 := keeps HB.out HBx.out
      have HP := hid (fun X h => prs1_any B (opWk k) wd (opNk k) (opFv k) X (opFv_one k) h)
      have hone := opFv_one k
      by_cases hkI : k < I
      · have hm := HMs.out k hkI hk6
        rw [hm] at HP
        clear hm HMs HHw HNo hX
        generalize opWk k = xk at *
        generalize opNk k = nk at *
        generalize opFv k = fk at *
        go_wp2_with (go_at_call 29; refine (HP.out _ hB2).mono ?_; rintro e w2 ⟨rfl, hb2⟩; have HB2 := hid (HB.out.trans (hb2.mono HB.out.size)); clear hb2)
        go_roundw
        case rel => exact ⟨k + 1, by omega, by go_num, HB2⟩
        case measure => simp [intOf]; omega
      · obtain rfl : k = I := by omega
        obtain ⟨h1, h2, h3⟩ := HHw.out hk6
        have hv : (decide (opWk k = wd) && !decide (wd.data.toList = [])) = true := by simp [h1, h2]
        rw [hv] at HP
        have HX := hid (hX.symm.trans (hX.trans h3))
        clear hv h1 h2 h3 HMs HHw HNo hX
        generalize opWk k = xk at *
        generalize opNk k = nk at *
        generalize opFv k = fk at *
        go_wp2_with (go_at_call 29; refine (HP.out _ hB2).mono ?_; rintro e w2 ⟨rfl, hb2⟩; have HB2 := hid (HB.out.trans (hb2.mono HB.out.size)); clear hb2)
        go_ret
        exact ⟨by rw [HX.out]; rfl, HB2.out⟩
    · obtain rfl : k = 6 := by omega
      have HX := hid (hX.symm.trans (hX.trans (HNo.out (by omega))))
      clear HMs HHw HNo hX
      go_wp2
      go_ret
      exact ⟨by rw [HX.out]; rfl, HB.out⟩
end Go.Proofs.YtmabciajhmjmeaaGreatDoor
