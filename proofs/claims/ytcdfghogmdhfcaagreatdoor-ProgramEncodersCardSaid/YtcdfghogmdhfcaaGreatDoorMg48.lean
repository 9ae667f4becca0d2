/-
  The law's word for a program that it does not look at.
  program.Print's inner function: a line of the text, written into the builder.
  Conditions: No condition beyond the code and the outputs lying in slices. No condition beyond what strconv.Itoa yields at the numbers of the line.
-/
import Derived.Test.YtcdfghogmdhfcaaGreatDoorPrReduce
import Derived.Test.YtcdfghogmdhfcaaGreatDoorPrRef
import Derived.Test.YtcdfghogmdhfcaaGreatDoorMg33
import Derived.Deep.QuietTactic
namespace Go.Proofs.YtcdfghogmdhfcaaGreatDoor
open Go.RowKit Go.Deep
set_option linter.unusedVariables false

/-- Too great. -/
def greatB (c : List Ins) (o : List Int) : Bool := decide (30 < (c.length : Int)) || decide (30 < (o.length : Int))
set_option maxHeartbeats 2000000 in
theorem pgreat_any (n : Int) (vc vo : Value) (c : List Ins) (o : List Int) (w : World) (hc : Sl 3 w vc c.length (icells c)) (ho : Sl 1 w vo o.length (ints o)) :
    Calls Tryz.prog 5 #[.agg #[.int .i64 n, vc, vo]] w fun e w' => e = .returned (.bool (greatB c o)) ∧ Below w.heap.size w w' := by
  obtain ⟨ac, cc, rfl, _, hc1, hc2, _⟩ := hc
  obtain ⟨ao, co, rfl, _, ho1, ho2, _⟩ := ho
  by_cases h1 : 30 < (c.length : Int)
  · have e : greatB c o = true := by simp [greatB]; omega
    rw [e]
    have h1' : decide (30 < (c.length : Int)) = true := by simpa using h1
    go_enter Tryz.func5, Tryz.ntmps5
    go_wp2
    go_ret
    exact ⟨rfl, bel_alloc _ _⟩
  · have h1' : decide (30 < (c.length : Int)) = false := by simpa using h1
    have HE := hid (show greatB c o = decide (30 < (o.length : Int)) by rw [greatB, h1']; rfl)
    go_enter Tryz.func5, Tryz.ntmps5
    go_wp2
    go_ret
    exact ⟨ret_bool (by rw [HE.out]), bel_alloc _ _⟩
/-- The law looks at it. -/
def fineB (n : Int) (c : List Ins) (o : List Int) : Bool := !greatB c o && decide (progErr n c o = 0)
end Go.Proofs.YtcdfghogmdhfcaaGreatDoor

namespace Go.Proofs.YtcdfghogmdhfcaaGreatDoor
open Go.RowKit
set_option linter.unusedVariables false

/-- Numbers, each behind a space; a line. -/
def numsL (dg : Int → List UInt8) (l : List Int) : List UInt8 := l.flatMap fun k => 32 :: dg k
def lineL (dg : Int → List UInt8) (wd : List UInt8) (l : List Int) : List UInt8 := wd ++ numsL dg l ++ [10]
theorem numsL_snoc (dg : Int → List UInt8) (l : List Int) (x : Int) : numsL dg (l ++ [x]) = numsL dg l ++ 32 :: dg x := by simp [numsL]
theorem numsL_len {dg : Int → List UInt8} {l : List Int} (h : ∀ k ∈ l, (dg k).length ≤ 20) : (numsL dg l).length ≤ l.length * 21 := by
  induction l with
  | nil => simp [numsL]
  | cons a t ih =>
    have h1 := h a (by simp)
    have h2 := ih fun k hk => h k (by simp [hk])
    simp only [numsL, List.flatMap_cons, List.length_append, List.length_cons] at h2 ⊢
    omega
theorem byteCells_app (l m : List UInt8) : Lib.byteCells (l ++ m) = Lib.byteCells l ++ Lib.byteCells m := by simp [Lib.byteCells]
theorem space_str (l : List UInt8) : (⟨#[32]⟩ : ByteArray) ++ ⟨l.toArray⟩ = ⟨(32 :: l).toArray⟩ := by
  apply ByteArray.ext
  rw [ByteArray.data_append]
  simp
/-- What Itoa yields at the numbers below M. -/
def ItoaAt (dg : Int → List UInt8) (M : Int) (b S : Nat) (w : World) : Prop :=
  ∀ (k : Int) (X : World), 0 ≤ k → k < M → BelB S b w X → Calls Tryz.prog 31 #[.int .i64 k] X fun e X' => e = .returned (.string ⟨(dg k).toArray⟩) ∧ Below X.heap.size X X'
set_option maxRecDepth 100000 in
set_option maxHeartbeats 4000000 in
theorem line_any (dg : Int → List UInt8) (M : Int) (b S : Nat) (bs : List UInt8) (wd : ByteArray) (vn : Value) (l : List Int) (w : World)
    (h : Bld w b S (Lib.byteCells bs)) (hn : ∀ w', BelB S b w w' → BelT b w w' → Sl 1 w' vn l.length (ints l)) (hM : ∀ k ∈ l, 0 ≤ k ∧ k < M) (hI : ItoaAt dg M b S w)
    (hd : ∀ k : Int, 0 ≤ k → k < M → (dg k).length ≤ 20) (hlen : bs.length + wd.size + l.length * 21 + 1 ≤ 140737488355328) :
    Calls Tryz.prog 40 #[.string wd, vn, .pointer (some ⟨b, 0, none⟩)] w fun e w' => e = .returned (.tuple #[]) ∧ Bld w' b S (Lib.byteCells (bs ++ lineL dg wd.data.toList l)) ∧ BelB S b w w' ∧ BelT b w w' := by
  obtain ⟨an, cn, rfl, _, hn1, hn2, _⟩ := hn w (BelB.refl _ _ _) (BelT.refl _ _)
  have HN := hid hn
  have HI := hid hI
  have HM := hid hM
  have HDg := hid hd
  have HH := hid h
  have hwd : wd.data.toList.length = wd.size := by simp
  have HL := hid (fun j => numsL_len (dg := dg) (l := l.take j) fun k hk => hd k (hM k (List.mem_of_mem_take hk)).1 (hM k (List.mem_of_mem_take hk)).2)
  have HWs := hid (fun x s X hX hlx => writeString_bldt b S x s X hX hlx)
  have HWb := hid (fun x c X hX hlx => writeByte_bldt b S x c X hX hlx)
  clear hn hI hM hd h
  go_enter Tryz.func40, Tryz.ntmps40
  go_wp2_with (go_at_call 29; refine (HWs.out _ _ _ HH.out (by rw [Lib.byteCells_length]; omega)).mono ?_; rintro e w1 ⟨rfl, hB1, hb1, ht1⟩)
  rw [show Lib.strCells wd = Lib.byteCells wd.data.toList from rfl, ← byteCells_app] at hB1
  have HB1 := hid hB1
  have Hb1 := hid hb1
  have Ht1 := hid ht1
  clear hB1 hb1 ht1
  go_loopw [11] (fun i wr => ∃ j : Nat, j ≤ l.length ∧ i = .int .i64 j ∧ Bld wr b S (Lib.byteCells (bs ++ wd.data.toList ++ numsL dg (l.take j))) ∧ BelB S b w wr ∧ BelT b w wr) (fun i _ => l.length - (intOf i).toNat)
  case atStart => exact ⟨0, Nat.zero_le _, rfl, by rw [List.take_zero]; simpa [numsL] using HB1.out, Hb1.out, Ht1.out⟩
  case round =>
    obtain ⟨j, hj, rfl, hBj, hbj, htj⟩ := hrel
    have HBj := hid hBj
    have Hbj := hid hbj
    have Htj := hid htj
    clear hBj hbj htj
    rename World => wj
    by_cases hlt : j < l.length
    · obtain ⟨x, hx⟩ := some_of_lt hlt
      obtain ⟨g, o, hgo, e1⟩ := (HN.out _ Hbj.out Htj.out).cell (ints_get hx)
      obtain rfl := hgo
      obtain ⟨hx0, hxM⟩ := HM.out x (List.mem_of_getElem? hx)
      have hlx := HDg.out x hx0 hxM
      have HT := hid (show numsL dg (l.take (j + 1)) = numsL dg (l.take j) ++ 32 :: dg x by rw [take_snoc hx, numsL_snoc])
      have hsz : ByteArray.size ⟨(dg x).toArray⟩ = (dg x).length := by show (dg x).toArray.size = _; simp
      have hl1 := HL.out j
      rw [List.length_take, Nat.min_eq_left (by omega)] at hl1
      have HIx := hid (fun X hX => HI.out x X hx0 hxM hX)
      have hs32 := space_str (dg x)
      have HW2 := hid (fun X hX => HWs.out (Lib.byteCells (bs ++ wd.data.toList ++ numsL dg (l.take j))) ⟨(32 :: dg x).toArray⟩ X hX (by
        rw [Lib.byteCells_length, List.length_append, List.length_append, hwd]
        have : ByteArray.size ⟨(32 :: dg x).toArray⟩ = (dg x).length + 1 := by show (32 :: dg x).toArray.size = _; simp
        omega))
      clear hl1 hx hxM hx0
      go_wp2_with (first
        | (go_at_call 31; refine (HIx.out _ Hbj.out).mono ?_; rintro e w2 ⟨rfl, hb2⟩)
        | (go_at_call 29; refine (HW2.out _ (HBj.out.below hb2)).mono ?_; rintro e w3 ⟨rfl, hB3, hb3, ht3⟩))
      go_roundw
      case rel => exact ⟨j + 1, by omega, by go_num, by rw [HT.out, ← List.append_assoc, byteCells_app _ (32 :: dg x)]; exact hB3, (Hbj.out.trans (BelB.of (hb2.mono (by have := HBj.out.2.1; exact this)))).trans hb3, (Htj.out.trans (BelT.below hb2)).trans ht3⟩
      case measure => simp [intOf]; omega
    · have HA := hid (show numsL dg (l.take j) = numsL dg l by rw [take_all (by omega)])
      have hl1 := HL.out j
      have hl2 : (l.take j).length ≤ l.length := by simp; omega
      go_wp2_with (go_at_call 41; refine (HWb.out _ _ _ HBj.out (by rw [Lib.byteCells_length, List.length_append, List.length_append, hwd]; omega)).mono ?_; rintro e w3 ⟨rfl, hB3, hb3, ht3⟩)
      go_end0
      refine ⟨rfl, ?_, Hbj.out.trans hb3, Htj.out.trans ht3⟩
      rw [lineL, ← HA.out, ← List.append_assoc, ← List.append_assoc, byteCells_app _ [10]]
      exact hB3
end Go.Proofs.YtcdfghogmdhfcaaGreatDoor
