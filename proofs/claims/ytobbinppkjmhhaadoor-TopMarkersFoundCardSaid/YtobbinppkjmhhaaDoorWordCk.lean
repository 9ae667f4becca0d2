/-
  word.known and word.Check: why a string is no word over q letters.
  No condition.
-/
import Derived.Test.YtobbinppkjmhhaaDoorAid
import Derived.Test.YtobbinppkjmhhaaDoorCodeLaw
import Derived.Test.YtobbinppkjmhhaaDoorShelf
namespace Go.Proofs.YtobbinppkjmhhaaDoor
open Go.RowKit
set_option linter.unusedVariables false

theorem wknown_yes (q : Int) (w : World) (h1 : 1 ≤ q) (h2 : q ≤ 16) :
    Calls Tryd.prog 50 #[.int .i64 q] w fun e w' => e = .returned (.bool true) ∧ w = w' := by
  go_enter Tryd.func50, Tryd.ntmps50
  go_wp2
  go_ret
  exact ⟨by simp, rfl⟩
theorem wknown_no (q : Int) (w : World) (h1 : q < 1 ∨ 16 < q) :
    Calls Tryd.prog 50 #[.int .i64 q] w fun e w' => e = .returned (.bool false) ∧ w = w' := by
  by_cases h2 : 1 ≤ q
  · have h3 : ¬ q ≤ 16 := by omega
    go_enter Tryd.func50, Tryd.ntmps50
    go_wp2
    go_ret
    exact ⟨by simp, rfl⟩
  · go_enter Tryd.func50, Tryd.ntmps50
    go_wp2
    go_ret
    exact ⟨rfl, rfl⟩

theorem byte_of (r : ByteArray) (k : Nat) (h : k < r.size) : r[k]'h = r.data.toList.getD k 0 := by
  have h' : k < r.data.toList.length := by simpa using h
  rw [List.getD_eq_getElem?_getD, List.getElem?_eq_getElem h']
  simp [ByteArray.getElem_eq_getElem_data]
theorem u8_int (c : UInt8) : ((c.toNat : Int)).toNat.toUInt8 = c := by simp
def lettersB : ByteArray := ⟨#[48, 49, 50, 51, 52, 53, 54, 55, 56, 57, 97, 98, 99, 100, 101, 102]⟩
theorem letters_take (q : Nat) : (lettersB.extract 0 q).data.toList = lettersL.take q := by
  rw [Lib.extract_data]; rfl
theorem ib_letters (c : UInt8) (w : World) : Calls Tryd.prog 43 #[.string ⟨#[48, 49, 50, 51, 52, 53, 54, 55, 56, 57, 97, 98, 99, 100, 101, 102]⟩, .int .u8 (c.toNat : Int)] w fun e w' => e = .returned (.int .i64 (digit c)) ∧ w' = w := by
  have h := Tryd.strings_IndexByte ⟨#[48, 49, 50, 51, 52, 53, 54, 55, 56, 57, 97, 98, 99, 100, 101, 102]⟩ c.toNat w
  rw [u8_int] at h
  exact h
theorem okWord_iff {q : Int} {w : ByteArray} : okWord q w = true ↔ ∀ (k : Nat) (c : UInt8), w.data.toList[k]? = some c → 0 ≤ digit c ∧ digit c < q := by
  unfold okWord
  rw [List.all_eq_true]
  constructor
  · intro h k c hc
    simpa using h c (List.mem_of_getElem? hc)
  · intro h c hc
    obtain ⟨k, hk⟩ := List.getElem?_of_mem hc
    simpa using h k c hk
theorem wordErr_ok {q : Int} {w : ByteArray} (h1 : 1 ≤ q) (h2 : q ≤ 16) (h3 : w.size ≤ 65536) (h4 : okWord q w = true) : wordErr q w = 0 := wordErr_zero.2 ⟨h1, h2, h3, h4⟩
theorem wordErr_bad {q : Int} {w : ByteArray} (h1 : 1 ≤ q) (h2 : q ≤ 16) (h3 : w.size ≤ 65536) (h4 : ¬ okWord q w = true) : wordErr q w = 13 := by
  rw [wordErr, if_neg (by omega), if_neg (by omega), if_neg h4]

set_option maxHeartbeats 1000000 in
theorem wcheck_any (q : Int) (s : ByteArray) (w : World) :
    Calls Tryd.prog 26 #[.int .i64 q, .string s] w fun e w' => e = .returned (.int .i64 (wordErr q s)) ∧ Dr w w' := by
  by_cases hq : q < 1 ∨ 16 < q
  · have e : wordErr q s = 12 := by rw [wordErr, if_pos hq]
    rw [e]
    go_enter Tryd.func26, Tryd.ntmps26
    go_wp2_with (go_at_call 50; refine (wknown_no _ _ hq).mono ?_; rintro e w' ⟨rfl, rfl⟩)
    go_ret
    exact ⟨rfl, Dr.refl _⟩
  · have h1 : 1 ≤ q := by omega
    have h2 : q ≤ 16 := by omega
    by_cases hs : 65536 < s.size
    · have e : wordErr q s = 4 := by rw [wordErr, if_neg hq, if_pos hs]
      rw [e]
      go_enter Tryd.func26, Tryd.ntmps26
      go_wp2_with (go_at_call 50; refine (wknown_yes _ _ h1 h2).mono ?_; rintro e w' ⟨rfl, rfl⟩)
      go_ret
      exact ⟨rfl, Dr.refl _⟩
    · obtain ⟨Q, rfl⟩ : ∃ Q : Nat, q = Q := ⟨q.toNat, by omega⟩
      have HE := hid (fun h4 => wordErr_ok (q := Q) (w := s) h1 h2 (by omega) h4)
      have HB := hid (fun h4 => wordErr_bad (q := Q) (w := s) h1 h2 (by omega) h4)
      clear hq
      go_enter Tryd.func26, Tryd.ntmps26
      go_wp2_with (go_at_call 50; refine (wknown_yes _ _ h1 h2).mono ?_; rintro e w' ⟨rfl, rfl⟩)
      go_loopw [16] (fun i wr => ∃ k : Nat, k ≤ s.size ∧ i = .int .i64 k ∧ Dr w wr ∧ Hid (∀ j c, j < k → s.data.toList[j]? = some c → 0 ≤ digit c ∧ digit c < Q)) (fun i _ => s.size - (intOf i).toNat)
      case atStart => exact ⟨0, Nat.zero_le _, rfl, Dr.refl _, hid (fun j c hj => by omega)⟩
      case round =>
        obtain ⟨k, hk, rfl, hD, HK⟩ := hrel
        have HD := hid hD
        clear hD
        by_cases hlt : k < s.size
        · have hbyte := byte_of s k hlt
          have HX := hid (show s.data.toList[k]? = some (s.data.toList.getD k 0) by
            have h' : k < s.data.toList.length := by simpa using hlt
            rw [List.getD_eq_getElem?_getD, List.getElem?_eq_getElem h']; rfl)
          generalize s.data.toList.getD k 0 = c at *
          have HDg := hid (digit_q Q c)
          have HIB := hid (Tryd.strings_IndexByte (lettersB.extract 0 Q) c.toNat)
          rw [letters_take, u8_int] at HIB
          have hlow := (ib_low (lettersL.take Q) c).1
          generalize Lib.indexByte (lettersL.take Q) c = I at *
          by_cases hI : I < 0
          · have HN := hid (HDg.out.1 hI)
            clear HDg
            go_upto_region 8 with fail
            go_quiet ((go_at_call 43; exact quietR (HIB.out _)))
            go_wp2
            go_ret
            refine ⟨ret_int (HB.out (fun h => HN.out ?_)).symm, HD.out.drewN _⟩
            exact okWord_iff.1 h k c HX.out
          · have HN := hid (show 0 ≤ digit c ∧ digit c < Q from Decidable.of_not_not fun h => hI (HDg.out.2 h))
            clear HDg
            go_upto_region 8 with fail
            go_quiet ((go_at_call 43; exact quietR (HIB.out _)))
            go_wp2
            go_roundw
            case rel => exact ⟨k + 1, by omega, by go_num, HD.out.drewN _, hid (fun j c' hj hc' => by
              by_cases e : j = k
              · subst e
                have h2 := HX.out
                rw [hc'] at h2
                rw [Option.some.inj h2]
                exact HN.out
              · exact HK.out j c' (by omega) hc')⟩
            case measure => simp [intOf]; omega
        · go_wp2
          go_ret
          refine ⟨ret_int (HE.out (okWord_iff.2 fun j c hc => HK.out j c ?_ hc)).symm, HD.out⟩
          have := lt_of_some hc
          simp at this
          omega
end Go.Proofs.YtobbinppkjmhhaaDoor
