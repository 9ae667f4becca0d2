/-
  watermark.Extract and watermark.Drift at words of one length over two letters that differ at three places at most.
  Words of at most 256 letters.
-/
import Derived.Test.YtcobdmenigpipaaGreatDoorWatAl2
namespace Go.Proofs.YtcobdmenigpipaaGreatDoor
open Go.RowKit Go.Deep
set_option linter.unusedVariables false
set_option linter.unusedSimpArgs false

theorem row_num {w : World} {base n j : Nat} {ao : Option Addr} {cap : Nat} {l : List Int} {x : Int} (h : w.ownsRow base 3 1 (.slice ao n cap) n (ints l)) (hj : l[j]? = some x) :
    ∃ g, ao = some ⟨g, 0, none⟩ ∧ base ≤ g ∧ g < w.heap.size ∧ w.cell? ⟨g, j, none⟩ = some (.int .i64 x) := by
  rcases h.2 with ⟨h1, h2⟩ | ⟨g, cap', cur, h1, hg, hk, _⟩
  · have := h.1
    rw [show (ints l).length = l.length by simp [ints]] at this
    have := lt_of_some hj
    omega
  · simp only [Value.slice.injEq] at h1
    obtain ⟨rfl, _, _⟩ := h1
    refine ⟨g, rfl, hg, (Array.getElem?_eq_some_iff.1 hk).1, ?_⟩
    obtain ⟨b, o, e, hc⟩ := (Sl.of_owns h).cell (show (ints l)[j]? = some (.int .i64 x) by rw [ints, List.getElem?_map, hj]; rfl)
    simp only [Option.some.injEq, Addr.mk.injEq, and_true] at e
    obtain ⟨rfl, rfl⟩ := e
    rwa [Nat.zero_add] at hc
theorem diag_at {n j : Nat} (h : j < n) : (diagL n)[j]? = some (j : Int) := by simp [diagL, h]
/-- The letters that tell where two words differ. -/
def difW (A B : List UInt8) : List UInt8 := List.zipWith (fun a b => UInt8.ofNat (48 + dif8 a b)) A B
theorem difW_len {A B : List UInt8} (h : A.length = B.length) : (difW A B).length = A.length := by simp [difW, h]
theorem difW_take {A B : List UInt8} {i : Nat} {a b : UInt8} (ha : A[i]? = some a) (hb : B[i]? = some b) : (difW A B).take (i + 1) = (difW A B).take i ++ [UInt8.ofNat (48 + dif8 a b)] :=
  take_snoc (by rw [difW, List.getElem?_zipWith, ha, hb])
theorem dif_two (a b : UInt8) : dif8 a b = 0 ∨ dif8 a b = 1 := by unfold dif8; split <;> simp
set_option maxRecDepth 100000 in
set_option maxHeartbeats 2000000 in
theorem extract_any (A B : ByteArray) (w : World) (h : DistOk A B) (hA : wordErr 2 A = 0) (hB : wordErr 2 B = 0) :
    Calls Tryz.prog 9 #[.string A, .string B] w fun e w' => e = .returned (.tuple #[.string ⟨(difW A.data.toList B.data.toList).toArray⟩, .int .i64 0]) ∧ Below w.heap.size w w' := by
  have hn := h.1
  have hl := h.2.1
  have hlA : A.data.toList.length = A.size := by simp
  have hlB : B.data.toList.length = B.size := by simp
  have HCk := hid (fun X => wal_ok A B X hA hB hn (by omega))
  have HAl := hid (fun X => align_any A B X h)
  have HSA := hid (fun (i : Nat) (h : i < A.size) => (show ∃ a b, A.data.toList[i]? = some a ∧ B.data.toList[i]? = some b from by
    obtain ⟨a, ha⟩ := some_of_lt (show i < A.data.toList.length by omega)
    obtain ⟨b, hb⟩ := some_of_lt (show i < B.data.toList.length by omega)
    exact ⟨a, b, ha, hb⟩))
  have HDf := hid (fun (i : Nat) (a b : UInt8) (X : World) ha hb => differ_any A B i i a b X ha hb)
  have HTk := hid (fun (i : Nat) (a b : UInt8) ha hb => difW_take (A := A.data.toList) (B := B.data.toList) (i := i) (a := a) (b := b) ha hb)
  have HLn := hid (show (difW A.data.toList B.data.toList).length = A.size by rw [difW_len (by omega)]; omega)
  clear hlA hlB h hA hB hl
  generalize difW A.data.toList B.data.toList = D at *
  go_enter Tryz.func9, Tryz.ntmps9
  go_upto_region 5 with (go_at_call 23; refine (HCk.out _).mono ?_; rintro e w1 ⟨rfl, h1⟩)
  have hb1 := h1.below w.heap.size
  have hs1 : w1.heap.size = w.heap.size := by obtain ⟨n, rfl⟩ := h1; simp
  clear h1
  obtain ⟨w2, hw2⟩ : ∃ w2, w1.alloc (.cells #[.pointer none, .slice none 0 0] 42) = w2 := ⟨_, rfl⟩
  have hb2 : Below w1.heap.size w1 w2 := by rw [← hw2]; exact bel_alloc _ _
  have hs2 : w2.heap.size = w1.heap.size + 1 := by rw [← hw2]; simp
  rw [hw2]
  have HW2 := hid hw2
  clear hw2
  go_upto_region 7 with (go_at_call 24; refine (HAl.out _).mono ?_; rintro e w3 ⟨u, cz, rfl, ho3, hb3⟩; have HO3 := hid ho3; have HB3 := hid hb3; clear ho3 hb3; obtain ⟨au, cu, rfl⟩ := own_slice HO3.out)
  have hbld : Bld w3 w1.heap.size w3.heap.size [] := Bld.start (w := w1) (by rw [HW2.out, ← hs2]; exact HB3.out)
  have HBd := hid hbld
  have hb13 : Below w.heap.size w w3 := (hb1.trans (hb2.mono (by omega))).trans (HB3.out.mono (by omega))
  have HB13 := hid hb13
  have HSz := hid (show w1.heap.size = w.heap.size ∧ w2.heap.size = w1.heap.size + 1 ∧ w2.heap.size ≤ w3.heap.size from ⟨hs1, hs2, HB3.out.size⟩)
  rw [hs1] at HBd HSz
  clear hs1 hs2 hb1 hb2 hbld hb13 HW2
  generalize hSS : w3.heap.size = S at *
  have HSS := hid hSS
  clear hSS
  generalize hbW : w.heap.size = b at *
  have HbW := hid hbW
  clear hbW
  generalize w2.heap.size = N2 at *
  go_loopw [26] (fun i wr => ∃ k : Nat, k ≤ A.size ∧ i = .int .i64 (k : Int) ∧ Hid (Bld wr b S (Lib.byteCells (D.take k))) ∧ Hid (BelB S b w3 wr)) (fun i _ => A.size - (intOf i).toNat)
  case atStart => exact ⟨0, Nat.zero_le _, rfl, HBd, hid (BelB.refl _ _ _)⟩
  case round =>
    obtain ⟨k, hk, rfl, HD, HB⟩ := hrel
    rename World => wk
    by_cases hlt : k < A.size
    · obtain ⟨a, c, ha, hc⟩ := HSA.out k hlt
      obtain ⟨g, rfl, hg1, hg2, hcell⟩ := row_num HO3.out (diag_at hlt)
      have cw := HB.out.cell hcell (by have := HSS.out; show g < S; omega) (by have := HSz.out; show g ≠ b; omega)
      have HDc := hid (fun X => HDf.out k a c X ha hc)
      have HT := hid (HTk.out k a c ha hc)
      have hkI : (k : Int) < (A.size : Int) := by omega
      have hkn : ¬ (k : Int) < 0 := by omega
      have hS : b < S ∧ S ≤ wk.heap.size := ⟨HD.out.1, HD.out.2.1⟩
      have hln : (Lib.byteCells (D.take k)).length + 1 ≤ 140737488355328 := by rw [Lib.byteCells_length, List.length_take]; omega
      have hk1 : k + 1 ≤ A.size := hlt
      have hms : A.size - (k + 1) < A.size - k := by omega
      clear ha hc hcell hg1 hg2
      have hbc : ∀ x : UInt8, Lib.byteCells (D.take k ++ [x]) = Lib.byteCells (D.take k) ++ [.int .u8 (x.toNat : Int)] := fun x => by simp [Lib.byteCells]
      have hcase : ∀ Q : Prop, ((dif8 a c = 0) → Hid (Lib.byteCells (D.take (k + 1)) = Lib.byteCells (D.take k) ++ [.int .u8 48]) → Q) → ((dif8 a c = 1) → Hid (Lib.byteCells (D.take (k + 1)) = Lib.byteCells (D.take k) ++ [.int .u8 49]) → Q) → Q := by
        intro Q q0 q1
        rcases dif_two a c with hd | hd
        · exact q0 hd (hid (by rw [HT.out, hbc, hd]; rfl))
        · exact q1 hd (hid (by rw [HT.out, hbc, hd]; rfl))
      clear hbc HT
      refine hcase _ (fun hd HT => ?_) (fun hd HT => ?_) <;> clear hcase
      all_goals
        rw [hd] at HDc
        clear hd
        go_wp2_with (first
          | (go_at_call 25; refine (HDc.out _).mono ?_; rintro e w5 ⟨rfl, hb5⟩; have HD5 := hid (HD.out.below hb5); have HB5 := hid (HB.out.trans (BelB.of (hb5.mono hS.2))); clear hb5)
          | (go_at_call 16; refine (writeByte_bld _ _ _ _ _ HD5.out hln).mono ?_; rintro e w6 ⟨rfl, hd6, hb6⟩; have HD6 := hid hd6; have HB6 := hid (HB5.out.trans hb6); clear hd6 hb6))
        go_roundw
        case rel => exact ⟨k + 1, hk1, rfl, hid (by rw [HT.out]; exact HD6.out), HB6⟩
        case measure => exact hms
    · have HA := hid (show D.take k = D by rw [take_all (by have := HLn.out; omega)])
      have hkI : ¬ (k : Int) < (A.size : Int) := by omega
      have HSt := hid (string_bld b S D wk (by rw [← HA.out]; exact HD.out))
      go_wp2_with (go_at_call 17; refine HSt.out.mono ?_; rintro e w7 ⟨rfl, hb7⟩)
      go_ret2
      exact ⟨rfl, by rw [HbW.out]; exact (HB13.out.trans (HB.out.below (Nat.le_refl _) (by have := HSz.out; omega))).trans hb7⟩
theorem zeros_succ (n : Nat) : ints (List.replicate (n + 1) 0) = ints (List.replicate n 0) ++ [.int .i64 0] := by simp [ints, List.replicate_succ']
set_option maxRecDepth 100000 in
set_option maxHeartbeats 2000000 in
theorem drift_any (A B : ByteArray) (w : World) (h : DistOk A B) (hA : wordErr 2 A = 0) (hB : wordErr 2 B = 0) :
    Calls Tryz.prog 10 #[.string A, .string B] w fun e w' => ∃ u, e = .returned (.tuple #[u, .int .i64 0]) ∧ w'.ownsRow w.heap.size 3 1 u A.size (ints (List.replicate A.size 0)) ∧ Below w.heap.size w w' := by
  have hn := h.1
  have hl := h.2.1
  have HCk := hid (fun X => wal_ok A B X hA hB hn (by omega))
  have HAl := hid (fun X => align_any A B X h)
  clear h hA hB hl
  go_enter Tryz.func10, Tryz.ntmps10
  go_upto_region 5 with (go_at_call 23; refine (HCk.out _).mono ?_; rintro e w1 ⟨rfl, h1⟩)
  have hb1 := h1.below w.heap.size
  have hs1 : w1.heap.size = w.heap.size := by obtain ⟨n, rfl⟩ := h1; simp
  clear h1
  go_upto_region 7 with (go_at_call 24; refine (HAl.out _).mono ?_; rintro e w3 ⟨u, cz, rfl, ho3, hb3⟩; have HO3 := hid ho3; have HB3 := hid hb3; clear ho3 hb3; obtain ⟨au, cu, rfl⟩ := own_slice HO3.out)
  have HB13 := hid (hb1.trans (HB3.out.mono (by omega)))
  have HSz := hid (show w.heap.size ≤ w3.heap.size from HB13.out.size)
  clear hs1 hb1
  go_loopw [7, 26] (fun v i wr => ∃ k : Nat, k ≤ A.size ∧ i = .int .i64 (k : Int) ∧ Hid (wr.ownsRow w3.heap.size 3 1 v k (ints (List.replicate k 0))) ∧ Hid (Below w3.heap.size w3 wr)) (fun _ i _ => A.size - (intOf i).toNat)
  case atStart => exact ⟨0, Nat.zero_le _, rfl, hid (World.ownsRow_nil _ _ _ _), hid (Below.refl _ _)⟩
  case round =>
    obtain ⟨k, hk, rfl, HO, HB⟩ := hrel
    rename World => wk
    by_cases hlt : k < A.size
    · obtain ⟨g, rfl, hg1, hg2, hcell⟩ := row_num HO3.out (diag_at hlt)
      have cw := keeps HB.out hcell
      have hkI : (k : Int) < (A.size : Int) := by omega
      have hkn : (0 : Int) ≤ (k : Int) := by omega
      have hk1 : k + 1 ≤ A.size := hlt
      have hms : A.size - (k + 1) < A.size - k := by omega
      have hk2 : k ≤ 256 := by omega
      have hbs := HB.out.size
      have hsub : (k : Int) - (k : Int) = 0 := by omega
      clear hcell hg1 hg2
      go_wp2_with (at_builtin; refine wpList_push _ rfl _ _ 26 rfl w3.heap.size 3 (.int .i64 0) 1 8 Tryz.underlying26 Tryz.infoInt rfl (by decide) _ _ _ rfl HO.out #[.int .i64 0] rfl (oneCell_int _ _) rfl (by unfold maxLen; omega) (by omega) hbs ?_; intro g5 gc5 w5 hown5 hg5 hb5; have HO5 := hid hown5; have HB5 := hid (HB.out.trans hb5); clear hown5 hg5 hb5)
      go_roundw
      case rel => exact ⟨k + 1, hk1, rfl, hid (by rw [zeros_succ]; exact HO5.out), HB5⟩
      case measure => exact hms
    · obtain rfl : k = A.size := by omega
      have hkI : ¬ (A.size : Int) < (A.size : Int) := by omega
      go_wp2
      go_ret2
      exact ⟨_, rfl, own_base HO.out HSz.out, HB13.out.trans (HB.out.mono HSz.out)⟩
end Go.Proofs.YtcobdmenigpipaaGreatDoor
