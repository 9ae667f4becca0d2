/-
  word.known and word.Check: why a string is no word over q letters.
  The reference's words: the number of a letter, why a word is not valid.
  Conditions: No condition. No condition.
-/
import Derived.Test.YtcdfghogmdhfcaaGreatDoorMg0
import Derived.Test.YtcdfghogmdhfcaaGreatDoorCodeLaw
import Derived.Test.YtcdfghogmdhfcaaGreatDoorMg10
import Derived.Deep.QuietTactic
namespace Go.Proofs.YtcdfghogmdhfcaaGreatDoor
open Go.RowKit
set_option linter.unusedVariables false

theorem wknown_yes (q : Int) (w : World) (h1 : 1 ≤ q) (h2 : q ≤ 16) :
    Calls Tryz.prog 83 #[.int .i64 q] w fun e w' => e = .returned (.bool true) ∧ w = w' := by
  go_enter Tryz.func83, Tryz.ntmps83
  go_wp2
  go_ret
  exact ⟨by simp, rfl⟩
theorem wknown_no (q : Int) (w : World) (h1 : q < 1 ∨ 16 < q) :
    Calls Tryz.prog 83 #[.int .i64 q] w fun e w' => e = .returned (.bool false) ∧ w = w' := by
  by_cases h2 : 1 ≤ q
  · have h3 : ¬ q ≤ 16 := by omega
    go_enter Tryz.func83, Tryz.ntmps83
    go_wp2
    go_ret
    exact ⟨by simp, rfl⟩
  · go_enter Tryz.func83, Tryz.ntmps83
    go_wp2
    go_ret
    exact ⟨rfl, rfl⟩

theorem byte_of (r : ByteArray) (k : Nat) (h : k < r.size) : r[k]'h = r.data.toList.getD k 0 := by
  have h' : k < r.data.toList.length := by simpa using h
  rw [List.getD_eq_getElem?_getD, List.getElem?_eq_getElem h']
  simp [ByteArray.getElem_eq_getElem_data]
theorem u8_int (c : UInt8) : ((c.toNat : Int)).toNat.toUInt8 = c := by simp
def lettersB : ByteArray := ⟨#[48, 49, 50, 51, 52, 53, 54, 55, 56, 57, 97, 98, 99, 100, 101, 102]⟩
theorem letters_take (q : Nat) : (lettersB.extract 0 q).data.toList = lettersL.take q := by
  rw [Lib.extract_data]; rfl
theorem ib_letters (c : UInt8) (w : World) : Calls Tryz.prog 54 #[.string ⟨#[48, 49, 50, 51, 52, 53, 54, 55, 56, 57, 97, 98, 99, 100, 101, 102]⟩, .int .u8 (c.toNat : Int)] w fun e w' => e = .returned (.int .i64 (digit c)) ∧ w' = w := by
  have h := Tryz.strings_IndexByte ⟨#[48, 49, 50, 51, 52, 53, 54, 55, 56, 57, 97, 98, 99, 100, 101, 102]⟩ c.toNat w
  rw [u8_int] at h
  exact h
theorem okWord_iff {q : Int} {w : ByteArray} : okWord q w = true ↔ ∀ (k : Nat) (c : UInt8), w.data.toList[k]? = some c → 0 ≤ digit c ∧ digit c < q := by
  unfold okWord
  rw [List.all_eq_true]
  constructor
  · intro h k c hc
    simpa using h c (List.mem_of_getElem? hc)
  · intro h c hc
    obtain ⟨k, hk⟩ := List.getElem?_of_mem hc
    simpa using h k c hk
theorem wordErr_ok {q : Int} {w : ByteArray} (h1 : 1 ≤ q) (h2 : q ≤ 16) (h3 : w.size ≤ 65536) (h4 : okWord q w = true) : wordErr q w = 0 := wordErr_zero.2 ⟨h1, h2, h3, h4⟩
theorem wordErr_bad {q : Int} {w : ByteArray} (h1 : 1 ≤ q) (h2 : q ≤ 16) (h3 : w.size ≤ 65536) (h4 : ¬ okWord q w = true) : wordErr q w = 13 := by
  rw [wordErr, if_neg (by omega), if_neg (by omega), if_neg h4]

set_option maxHeartbeats 1000000 in
theorem wcheck_any (q : Int) (s : ByteArray) (w : World) :
    Calls Tryz.prog 48 #[.int .i64 q, .string s] w fun e w' => e = .returned (.int .i64 (wordErr q s)) ∧ Dr w w' := by
  by_cases hq : q < 1 ∨ 16 < q
  · have e : wordErr q s = 12 := by rw [wordErr, if_pos hq]
    rw [e]
    go_enter Tryz.func48, Tryz.ntmps48
    go_wp2_with (go_at_call 83; refine (wknown_no _ _ hq).mono ?_; rintro e w' ⟨rfl, rfl⟩)
    go_ret
    exact ⟨rfl, Dr.refl _⟩
  · have h1 : 1 ≤ q := by omega
    have h2 : q ≤ 16 := by omega
    by_cases hs : 65536 < s.size
    · have e : wordErr q s = 4 := by rw [wordErr, if_neg hq, if_pos hs]
      rw [e]
      go_enter Tryz.func48, Tryz.ntmps48
      go_wp2_with (go_at_call 83; refine (wknown_yes _ _ h1 h2).mono ?_; rintro e w' ⟨rfl, rfl⟩)
      go_ret
      exact ⟨rfl, Dr.refl _⟩
    · obtain ⟨Q, rfl⟩ : ∃ Q : Nat, q = Q := ⟨q.toNat, by omega⟩
      have HE := hid (fun h4 => wordErr_ok (q := Q) (w := s) h1 h2 (by omega) h4)
      have HB := hid (fun h4 => wordErr_bad (q := Q) (w := s) h1 h2 (by omega) h4)
      clear hq
      go_enter Tryz.func48, Tryz.ntmps48
      go_wp2_with (go_at_call 83; refine (wknown_yes _ _ h1 h2).mono ?_; rintro e w' ⟨rfl, rfl⟩)
      go_loopw [16] (fun i wr => ∃ k : Nat, k ≤ s.size ∧ i = .int .i64 k ∧ Dr w wr ∧ Hid (∀ j c, j < k → s.data.toList[j]? = some c → 0 ≤ digit c ∧ digit c < Q)) (fun i _ => s.size - (intOf i).toNat)
      case atStart => exact ⟨0, Nat.zero_le _, rfl, Dr.refl _, hid (fun j c hj => by omega)⟩
      case round =>
        obtain ⟨k, hk, rfl, hD, HK⟩ := hrel
        have HD := hid hD
        clear hD
        by_cases hlt : k < s.size
        · have hbyte := byte_of s k hlt
          have HX := hid (show s.data.toList[k]? = some (s.data.toList.getD k 0) by
            have h' : k < s.data.toList.length := by simpa using hlt
            rw [List.getD_eq_getElem?_getD, List.getElem?_eq_getElem h']; rfl)
          generalize s.data.toList.getD k 0 = c at *
          have HDg := hid (digit_q Q c)
          have HIB := hid (Tryz.strings_IndexByte (lettersB.extract 0 Q) c.toNat)
          rw [letters_take, u8_int] at HIB
          have hlow := (ib_low (lettersL.take Q) c).1
          generalize Lib.indexByte (lettersL.take Q) c = I at *
          by_cases hI : I < 0
          · have HN := hid (HDg.out.1 hI)
            clear HDg
            go_upto_region 8 with fail
            go_quiet ((go_at_call 54; exact quietR (HIB.out _)))
            go_wp2
            go_ret
            refine ⟨ret_int (HB.out (fun h => HN.out ?_)).symm, HD.out.drewN _⟩
            exact okWord_iff.1 h k c HX.out
          · have HN := hid (show 0 ≤ digit c ∧ digit c < Q from Decidable.of_not_not fun h => hI (HDg.out.2 h))
            clear HDg
            go_upto_region 8 with fail
            go_quiet ((go_at_call 54; exact quietR (HIB.out _)))
            go_wp2
            go_roundw
            case rel => exact ⟨k + 1, by omega, by go_num, HD.out.drewN _, hid (fun j c' hj hc' => by
              by_cases e : j = k
              · subst e
                have h2 := HX.out
                rw [hc'] at h2
                rw [Option.some.inj h2]
                exact HN.out
              · exact HK.out j c' (by omega) hc')⟩
            case measure => simp [intOf]; omega
        · go_wp2
          go_ret
          refine ⟨ret_int (HE.out (okWord_iff.2 fun j c hc => HK.out j c ?_ hc)).symm, HD.out⟩
          have := lt_of_some hc
          simp at this
          omega
end Go.Proofs.YtcdfghogmdhfcaaGreatDoor

namespace Go.Proofs.YtcdfghogmdhfcaaGreatDoor
open Go.RowKit
set_option linter.unusedVariables false

def dig0 (c : UInt8) : Nat := (digit c).toNat
theorem letter_dig0 {c : UInt8} (h : 0 ≤ digit c) : lettersL.getD (dig0 c) 0 = c := by
  have key : ∀ (l : List UInt8) (c : UInt8), 0 ≤ Lib.indexByte l c → l.getD (Lib.indexByte l c).toNat 0 = c := by
    intro l
    induction l with
    | nil => intro c h; simp [Lib.indexByte] at h
    | cons b l ih =>
      intro c h
      rw [Lib.indexByte] at h ⊢
      by_cases hb : (b == c) = true
      · rw [if_pos hb]; simpa using hb
      · rw [if_neg hb] at h ⊢
        by_cases hi : (Lib.indexByte l c == -1) = true
        · rw [if_pos hi] at h; omega
        · rw [if_neg hi] at h ⊢
          have hlow := (ib_low l c).1
          have hne : Lib.indexByte l c ≠ -1 := by simpa using hi
          have := ih c (by omega)
          rw [show (Lib.indexByte l c + 1).toNat = (Lib.indexByte l c).toNat + 1 by omega]
          simpa using this
  exact key lettersL c h
theorem next_digit {c : UInt8} {k : Nat} (h : ∀ j < k, lettersL.getD j 0 ≠ c) (hc : ¬ lettersL.getD k 0 = c) : ∀ j < k + 1, lettersL.getD j 0 ≠ c := fun j hj => by
  by_cases e : j = k
  · subst e; exact hc
  · exact h j (by omega)
theorem digit_letter {a : Nat} (h : a < 16) : digit (lettersL.getD a 0) = a := by
  have h2 := List.all_eq_true.1 (show (List.range 16).all (fun a => digit (lettersL.getD a 0) == (a : Int)) = true by decide) a (List.mem_range.2 h)
  simpa using h2
theorem digit_at {c : UInt8} {k : Nat} (hk : k < 16) (h : ∀ j < k, lettersL.getD j 0 ≠ c) (he : lettersL.getD k 0 = c) : digit c = k := by
  have h1 := digit_letter hk
  rw [he] at h1
  exact h1
theorem digit_none {c : UInt8} (h : ∀ j < 16, lettersL.getD j 0 ≠ c) : digit c = -1 := by
  by_cases g : 0 ≤ digit c
  · have := (digit_low c).2
    exact absurd (letter_dig0 g) (h _ (by unfold dig0; omega))
  · have := (digit_low c).1
    omega
set_option maxRecDepth 100000 in
set_option maxHeartbeats 4000000 in
theorem rdigit_any (c : UInt8) (w : World) : Calls Tryz.prog 57 #[.int .u8 (c.toNat : Int)] w fun e w' => e = .returned (.int .i64 (digit c)) ∧ w = w' := by
  go_enter Tryz.func57, Tryz.ntmps57
  go_wp2
  go_loop [3] (fun i => ∃ k : Nat, k ≤ 16 ∧ i = .int .i64 k ∧ Hid (∀ j < k, lettersL.getD j 0 ≠ c)) (fun i => 16 - (intOf i).toNat)
  case atStart => exact ⟨0, by omega, rfl, hid (fun j h => by omega)⟩
  case round =>
    obtain ⟨k, hk, rfl, HK⟩ := hrel
    by_cases hlt : k < 16
    · have hk16 : k < (⟨#[48, 49, 50, 51, 52, 53, 54, 55, 56, 57, 97, 98, 99, 100, 101, 102]⟩ : ByteArray).size := hlt
      have hbyte : (⟨#[48, 49, 50, 51, 52, 53, 54, 55, 56, 57, 97, 98, 99, 100, 101, 102]⟩ : ByteArray)[k]'hk16 = lettersL.getD k 0 := byte_of _ k hk16
      have HN := hid (fun h => next_digit (k := k) HK.out h)
      have HD := hid (fun h => digit_at hlt HK.out h)
      generalize lettersL.getD k 0 = L at *
      by_cases hc : L = c
      · have HD2 := hid (HD.out hc)
        have hb : ((L.toNat : Int) == (c.toNat : Int)) = true := by rw [hc]; simp
        clear hc
        go_wp2
        go_ret
        exact ⟨by rw [HD2.out]; rfl, rfl⟩
      · have HN2 := hid (HN.out hc)
        have hb : ((L.toNat : Int) == (c.toNat : Int)) = false := by
          rw [beq_eq_false_iff_ne]
          exact fun h => hc (UInt8.toNat_inj.1 (by omega))
        clear hc
        go_wp2
        go_round
        case rel => exact ⟨k + 1, by omega, by go_num, HN2⟩
        case measure => simp [intOf]; omega
    · obtain rfl : k = 16 := by omega
      have HN := hid (digit_none HK.out)
      go_wp2
      go_ret
      exact ⟨by rw [HN.out]; rfl, rfl⟩

set_option maxHeartbeats 2000000 in
theorem rwcheck_any (q : Int) (s : ByteArray) (w : World) :
    Calls Tryz.prog 56 #[.int .i64 q, .string s] w fun e w' => e = .returned (.int .i64 (wordErr q s)) ∧ w = w' := by
  by_cases hq : q < 1 ∨ 16 < q
  · have e : wordErr q s = 12 := by rw [wordErr, if_pos hq]
    rw [e]
    clear e
    rcases hq with hq | hq
    · go_enter Tryz.func56, Tryz.ntmps56
      go_wp2
      go_ret
      exact ⟨rfl, rfl⟩
    · have h1 : ¬ q < 1 := by omega
      go_enter Tryz.func56, Tryz.ntmps56
      go_wp2
      go_ret
      exact ⟨rfl, rfl⟩
  · have h1 : ¬ q < 1 := by omega
    have h2 : ¬ 16 < q := by omega
    by_cases hs : 65536 < s.size
    · have e : wordErr q s = 4 := by rw [wordErr, if_neg hq, if_pos hs]
      rw [e]
      clear e hq
      go_enter Tryz.func56, Tryz.ntmps56
      go_wp2
      go_ret
      exact ⟨rfl, rfl⟩
    · have HE := hid (fun h4 => wordErr_ok (q := q) (w := s) (by omega) (by omega) (by omega) h4)
      have HB := hid (fun h4 => wordErr_bad (q := q) (w := s) (by omega) (by omega) (by omega) h4)
      clear hq
      go_enter Tryz.func56, Tryz.ntmps56
      go_wp2
      go_loop [5] (fun i => ∃ k : Nat, k ≤ s.size ∧ i = .int .i64 k ∧ Hid (∀ j c, j < k → s.data.toList[j]? = some c → 0 ≤ digit c ∧ digit c < q)) (fun i => s.size - (intOf i).toNat)
      case atStart => exact ⟨0, Nat.zero_le _, rfl, hid (fun j c hj => by omega)⟩
      case round =>
        obtain ⟨k, hk, rfl, HK⟩ := hrel
        by_cases hlt : k < s.size
        · have hbyte := byte_of s k hlt
          have HX := hid (show s.data.toList[k]? = some (s.data.toList.getD k 0) by
            have h' : k < s.data.toList.length := by simpa using hlt
            rw [List.getD_eq_getElem?_getD, List.getElem?_eq_getElem h']; rfl)
          generalize s.data.toList.getD k 0 = c at *
          have HDg := hid (fun X => rdigit_any c X)
          have HR := hid (show (∀ j c', j < k + 1 → s.data.toList[j]? = some c' → 0 ≤ digit c' ∧ digit c' < q) ∨ ¬ (0 ≤ digit c ∧ digit c < q) by
            by_cases g : 0 ≤ digit c ∧ digit c < q
            · left
              intro j c' hj hc'
              by_cases e : j = k
              · subst e
                have h2 := HX.out
                rw [hc'] at h2
                rw [Option.some.inj h2]
                exact g
              · exact HK.out j c' (by omega) hc'
            · exact .inr g)
          have HW := hid (fun g : ¬ (0 ≤ digit c ∧ digit c < q) => HB.out (fun h => g (okWord_iff.1 h k c HX.out)))
          generalize hd : digit c = d at *
          have HdE := hid hd
          clear hd
          by_cases g1 : d < 0
          · have HR2 := hid (HW.out (by omega))
            go_wp2_with (go_at_call 57; refine (HDg.out _).mono ?_; rintro e w' ⟨rfl, rfl⟩)
            go_ret
            exact ⟨by rw [HR2.out]; rfl, rfl⟩
          · by_cases g2 : q ≤ d
            · have HR2 := hid (HW.out (by omega))
              go_wp2_with (go_at_call 57; refine (HDg.out _).mono ?_; rintro e w' ⟨rfl, rfl⟩)
              go_ret
              exact ⟨by rw [HR2.out]; rfl, rfl⟩
            · have HR2 := hid (HR.out.resolve_right (by omega))
              go_wp2_with (go_at_call 57; refine (HDg.out _).mono ?_; rintro e w' ⟨rfl, rfl⟩)
              go_round
              case rel => exact ⟨k + 1, by omega, by go_num, HR2⟩
              case measure => simp [intOf]; omega
        · have HR := hid (HE.out (okWord_iff.2 fun j c hc => HK.out j c (by have := lt_of_some hc; simp at this; omega) hc))
          go_wp2
          go_ret
          exact ⟨by rw [HR.out]; rfl, rfl⟩
end Go.Proofs.YtcdfghogmdhfcaaGreatDoor
