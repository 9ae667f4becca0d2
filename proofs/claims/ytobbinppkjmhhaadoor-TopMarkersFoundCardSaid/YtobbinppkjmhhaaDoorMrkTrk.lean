/-
  marker.track, marker.checkSize, marker.check, marker.checkWords where no error is met.
  The words' lengths together are small; the sizes, the marker and the words are valid.
-/
import Derived.Test.YtobbinppkjmhhaaDoorMrkLoc
import Derived.Test.YtobbinppkjmhhaaDoorBld
import Derived.Test.YtobbinppkjmhhaaDoorWordCk
namespace Go.Proofs.YtobbinppkjmhhaaDoor
open Go.RowKit Go.Shelf
set_option linter.unusedVariables false

def sstr (l : List (List UInt8)) : List Value := l.map fun x => .string (mkS x)
theorem sstr_get {l : List (List UInt8)} {k : Nat} {x : List UInt8} (h : l[k]? = some x) : (sstr l)[k]? = some (.string (mkS x)) := by simp [sstr, h]
theorem sstr_len (l : List (List UInt8)) : (sstr l).length = l.length := by simp [sstr]
theorem trk_snoc (m : List UInt8) (l : List (List UInt8)) (x : List UInt8) : trk m (l ++ [x]) = trk m l ++ (x ++ m) := by simp [trk]
theorem mkS_append (a b : List UInt8) : mkS a ++ mkS b = mkS (a ++ b) := by
  apply ByteArray.ext; apply Array.toList_inj.1
  simp [mkS]
theorem trk_le {m : List UInt8} {ws : List (List UInt8)} {k : Nat} {x : List UInt8} (h : ws[k]? = some x) : (trk m (ws.take k)).length + (x.length + m.length) ≤ (trk m ws).length := by
  have e : ws = ws.take k ++ [x] ++ ws.drop (k + 1) := by rw [← take_snoc h, List.take_append_drop]
  conv => rhs; rw [e]
  simp only [trk, List.flatMap_append, List.length_append, List.flatMap_cons, List.flatMap_nil, List.append_nil]
  omega
set_option maxRecDepth 100000 in
set_option maxHeartbeats 1000000 in
theorem track_any (m : List UInt8) (ws : List (List UInt8)) (v : Value) (w : World) (hl : Sl 1 w v ws.length (sstr ws)) (hlen : (trk m ws).length ≤ 1000000000) :
    Calls Tryd.prog 30 #[.string (mkS m), v] w fun e w' => e = .returned (.string (mkS (trk m ws))) ∧ Below w.heap.size w w' := by
  obtain ⟨ao, cap, rfl, h1, h2, h3, h4⟩ := id hl
  have HL := hid hl
  have HT := hid hlen
  clear hl h1 h4 hlen
  go_enter Tryd.func30, Tryd.ntmps30
  go_upto_region 2 with fail
  have hB0 := Bld.fresh w
  have hb0 := bel_alloc w (.cells #[.pointer none, .slice none 0 0] 97)
  obtain ⟨h, hh⟩ : ∃ h, w.heap.size = h := ⟨_, rfl⟩
  rw [hh] at hB0 ⊢
  generalize w.alloc (.cells #[.pointer none, .slice none 0 0] 97) = w1 at *
  rw [hh] at hb0
  have HB0 := hid hB0
  have HE0 := hid hb0
  clear hB0 hb0
  go_wp2
  go_loopw [10] (fun i wr => ∃ k : Nat, k ≤ ws.length ∧ i = .int .i64 (k : Int) ∧ Hid (Bld wr h (h + 1) (Lib.byteCells (trk m (ws.take k)))) ∧ Hid (Below h w wr)) (fun i _ => ws.length - (intOf i).toNat)
  case atStart => exact ⟨0, Nat.zero_le _, rfl, HB0, HE0⟩
  case round =>
    obtain ⟨k, hk, rfl, HBk, HB⟩ := hrel
    rename World => wk
    by_cases hlt : k < ws.length
    · obtain ⟨x, hx⟩ := some_of_lt hlt
      have hlk := trk_le (m := m) hx
      have ht := HT.out
      obtain ⟨b, o, rfl, c0⟩ := (HL.out.below (by rw [hh]; exact HB.out)).cell (sstr_get hx)
      have HX := hid hx
      have hlt2 : (k : Int) < (ws.length : Int) := by omega
      have hs1 : (mkS x).size + (mkS m).size ≤ 9223372036854775807 := by rw [mkS_size, mkS_size]; omega
      clear hx
      go_wp2_with (go_at_call 39; refine (writeString_bld _ _ _ _ _ HBk.out ?hle).mono ?_; rotate_left; rintro e w4 ⟨rfl, hk4, hb4⟩; have HK4 := hid hk4; have HB4 := hid (HB.out.trans (hb4.below (Nat.le_refl _) (by omega))); clear hk4 hb4)
      case hle => rw [mkS_append, mkS_size, List.length_append, Lib.byteCells_length]; omega
      go_roundw
      case rel => exact ⟨k + 1, by omega, by go_num, hid (by rw [take_snoc HX.out, trk_snoc]; have h5 := HK4.out; rw [mkS_append, Lib.strCells_eq, mkS_list] at h5; unfold Lib.byteCells at h5 ⊢; rw [List.map_append]; exact h5), HB4⟩
      case measure => simp [intOf]; omega
    · obtain rfl : k = ws.length := by omega
      have hb := HBk.out
      rw [List.take_length] at hb
      go_wp2_with (go_at_call 41; refine (string_bld _ _ _ _ hb).mono ?_; rintro e w4 ⟨rfl, hb4⟩; have HB4 := hid (HB.out.trans hb4); clear hb4)
      go_ret
      exact ⟨rfl, by rw [hh]; exact HB4.out⟩

theorem checkSize_any (b : Nat) (w : World) (h1 : 1 ≤ b) (h2 : b ≤ 16) : Calls Tryd.prog 11 #[.int .i64 (b : Int)] w fun e w' => e = .returned (.int .i64 0) ∧ Dr w w' := by
  have h3 : ¬ (b : Int) < 1 := by omega
  have h4 : ¬ (16 : Int) < (b : Int) := by omega
  go_enter Tryd.func11, Tryd.ntmps11
  go_wp2
  go_ret
  exact ⟨rfl, Dr.refl _⟩
set_option maxRecDepth 100000 in
theorem mcheck_any (b : Nat) (m x : List UInt8) (w : World) (h1 : 1 ≤ b) (h2 : b ≤ 16) (hm : m ≠ []) (hm2 : m.length ≤ 16) (hm3 : wordErr 2 (mkS m) = 0) (hx : wordErr 2 (mkS x) = 0) :
    Calls Tryd.prog 14 #[.int .i64 (b : Int), .string (mkS m), .string (mkS x)] w fun e w' => e = .returned (.int .i64 0) ∧ Dr w w' := by
  have hne := mkS_ne hm
  have hsz : ¬ (16 : Int) < ((mkS m).size : Int) := by rw [mkS_size]; omega
  have HS := hid (fun X => checkSize_any b X h1 h2)
  have HM := hid (fun X => wcheck_any 2 (mkS m) X)
  have HX := hid (fun X => wcheck_any 2 (mkS x) X)
  rw [hm3] at HM
  rw [hx] at HX
  go_enter Tryd.func14, Tryd.ntmps14
  go_upto_region 9 with (first
    | (go_at_call 11; refine (HS.out _).mono ?_; rintro e w1 ⟨rfl, hD1⟩)
    | (go_at_call 26; refine (HM.out _).mono ?_; rintro e w2 ⟨rfl, hD2⟩))
  go_wp2_with (go_at_call 26; refine (HX.out _).mono ?_; rintro e w3 ⟨rfl, hD3⟩)
  go_ret
  exact ⟨rfl, (hD1.trans hD2).trans hD3⟩
set_option maxRecDepth 100000 in
theorem checkWords_any (b c : Nat) (ws : List (List UInt8)) (v : Value) (w : World) (hl : Sl 1 w v ws.length (sstr ws)) (hb : b ≤ 16) (hc : c ≤ 16) (hn : ws.length ≤ 3) (hw : ∀ x ∈ ws, wordErr 2 (mkS x) = 0 ∧ x.length = b) :
    Calls Tryd.prog 12 #[.int .i64 (b : Int), .int .i64 (c : Int), v] w fun e w' => e = .returned (.int .i64 0) ∧ Dr w w' := by
  obtain ⟨ao, cap, rfl, h1, h2, h3, h4⟩ := id hl
  have HL := hid hl
  have HW := hid hw
  clear hl h1 h4 hw
  go_enter Tryd.func12, Tryd.ntmps12
  go_wp2
  go_loopw [12] (fun i wr => ∃ k : Nat, k ≤ ws.length ∧ i = .int .i64 (k : Int) ∧ Hid (Dr w wr)) (fun i _ => ws.length - (intOf i).toNat)
  case atStart => exact ⟨0, Nat.zero_le _, rfl, hid (Dr.refl _)⟩
  case round =>
    obtain ⟨k, hk, rfl, HD⟩ := hrel
    rename World => wk
    by_cases hlt : k < ws.length
    · obtain ⟨x, hx⟩ := some_of_lt hlt
      obtain ⟨bb, o, rfl, c0⟩ := (HL.out.dr HD.out).cell (sstr_get hx)
      obtain ⟨hx1, hx2⟩ := HW.out x (List.mem_of_getElem? hx)
      have HM := hid (fun X => wcheck_any 2 (mkS x) X)
      rw [hx1] at HM
      have hsz : ((mkS x).size : Int) = (b : Int) := by rw [mkS_size, hx2]
      have hlt2 : (k : Int) < (ws.length : Int) := by omega
      clear hx hx1 hx2
      go_wp2_with (go_at_call 26; refine (HM.out _).mono ?_; rintro e w2 ⟨rfl, hD2⟩)
      go_roundw
      case rel => exact ⟨k + 1, by omega, by go_num, hid (HD.out.trans hD2)⟩
      case measure => simp [intOf]; omega
    · obtain rfl : k = ws.length := by omega
      have hmul : ws.length * (b + c) ≤ 3 * 32 := Nat.mul_le_mul hn (by omega)
      obtain ⟨P, hP⟩ : ∃ P : Nat, ws.length * (b + c) = P := ⟨_, rfl⟩
      have hP2 : (ws.length : Int) * ((b : Int) + (c : Int)) = (P : Int) := by rw [← hP]; push_cast; rfl
      have hP3 : ¬ (1024 : Int) < (P : Int) := by omega
      clear hP
      go_wp2
      go_ret
      exact ⟨rfl, HD.out⟩
end Go.Proofs.YtobbinppkjmhhaaDoor
