/-
  The reference's decimal: the digits of a number.
  The number is not negative.
-/
import Derived.Test.YtmabciajhmjmeaaGreatDoorPrRead
namespace Go.Proofs.YtmabciajhmjmeaaGreatDoor
open Go.RowKit
set_option linter.unusedVariables false

theorem conv_dig {w : World} (c : UInt8) : (convert 41 9 (.slice (some ⟨w.heap.size, 0, none⟩) 1 1)).run Tryz.prog (w.alloc (.cells #[.int .u8 (c.toNat : Int)] 5)) = .ok (.string ⟨#[c]⟩) (w.alloc (.cells #[.int .u8 (c.toNat : Int)] 5)) :=
  run_convert_bytes_back (P := Tryz.prog) (w.alloc (.cells #[.int .u8 (c.toNat : Int)] 5)) 41 9 5 ⟨w.heap.size, 0, none⟩ 1 [c] Tryz.underlying41 Tryz.underlying5 Tryz.underlying9 (fun j hj => by
    have hj0 : j = 0 := by simpa using hj
    subst hj0
    exact World.news_of_block (heap_alloc_new w (.cells #[.int .u8 (c.toNat : Int)] 5)) 0 _ (by simp))
theorem catD (c : UInt8) (l : List UInt8) (w : World) (h : l.length ≤ 1000) : (Op.stringOp .add ⟨#[c]⟩ ⟨l.toArray⟩).run Tryz.prog w = .ok (.string ⟨(c :: l).toArray⟩) w := by
  unfold Op.stringOp
  have h1 : (⟨#[c]⟩ : ByteArray).size + (⟨l.toArray⟩ : ByteArray).size = 1 + l.length := by
    show #[c].size + l.toArray.size = _
    simp
  rw [if_neg (by rw [h1]; show ¬ ((1 + l.length : Nat) : Int) > 9223372036854775807; omega)]
  have h2 : (⟨#[c]⟩ : ByteArray) ++ ⟨l.toArray⟩ = ⟨(c :: l).toArray⟩ := by
    apply ByteArray.ext
    rw [ByteArray.data_append]
    simp
  rw [h2]
  rfl
theorem dig_of (m : Nat) : ((UInt8.ofNat (48 + m % 10)).toNat : Int) = 48 + ((m % 10 : Nat) : Int) := by
  rw [UInt8.toNat_ofNat']; omega
theorem ndig_below : ∀ (k u : Nat), 1 ≤ k → u < 10 ^ k → Lib.nDigits u ≤ k
  | 0, u, h, _ => by omega
  | k + 1, u, _, h => by
    by_cases h10 : u < 10
    · rw [Lib.nDigits_small h10]; omega
    · rw [Lib.nDigits_big h10]
      have h1 : 1 ≤ k := by
        rcases Nat.eq_zero_or_pos k with h0 | h0
        · subst h0; simp at h; omega
        · exact h0
      have := ndig_below k (u / 10) h1 (by rw [Nat.pow_succ] at h; omega)
      omega
theorem dec_len20 {u : Nat} (h : u ≤ 9223372036854775807) : (Lib.decDigits u).length ≤ 20 := by
  rw [Lib.decDigits_length]
  have := ndig_below 19 u (by decide) (by omega)
  omega
set_option maxRecDepth 100000 in
set_option maxHeartbeats 1000000 in
theorem decimal_any (N : Nat) (w : World) (hN : N ≤ 9223372036854775807) :
    Calls Tryz.prog 22 #[.int .i64 (N : Int)] w fun e w' => e = .returned (.string ⟨(Lib.decDigits N).toArray⟩) ∧ Below w.heap.size w w' := by
  have HD := hid (show (Lib.decDigits N).length ≤ 1000 from Nat.le_trans (dec_len20 hN) (by decide))
  go_enter Tryz.func22, Tryz.ntmps22
  go_wp2_with fail
  go_loopw [0, 3] (fun a s wr => ∃ (m : Nat) (l : List UInt8), m ≤ N ∧ a = .int .i64 (m : Int) ∧ s = .string ⟨l.toArray⟩ ∧ Hid (Lib.decDigits N = Lib.decDigits m ++ l) ∧ Hid (Below w.heap.size w wr)) (fun a _ _ => (intOf a).toNat)
  case atStart => exact ⟨N, [], Nat.le_refl _, rfl, rfl, hid (by simp), hid (Below.refl _ _)⟩
  case round =>
    obtain ⟨m, l, hm, rfl, rfl, HE, HB⟩ := hrel
    rename World => wk
    have hl : l.length ≤ 1000 := by
      have h1 := congrArg List.length HE.out
      rw [List.length_append] at h1
      have := HD.out
      omega
    have hr : (m : Int) % 10 = ((m % 10 : Nat) : Int) := by omega
    have hw8 : IntKind.u8.wrap (48 + ((m % 10 : Nat) : Int)) = ((UInt8.ofNat (48 + m % 10)).toNat : Int) := by rw [dig_of, IntKind.wrap_u8]; omega
    have hw9 : (48 + ((m % 10 : Nat) : Int)) % 256 = ((UInt8.ofNat (48 + m % 10)).toNat : Int) := by rw [dig_of]; omega
    have hq : (m : Int) / 10 = ((m / 10 : Nat) : Int) := by omega
    have HCv := hid (fun X : World => conv_dig (w := X) (UInt8.ofNat (48 + m % 10)))
    have HCt := hid (fun X : World => catD (UInt8.ofNat (48 + m % 10)) l X hl)
    by_cases h0 : m < 10
    · have hz : (((m / 10 : Nat) : Int) == 0) = true := by rw [beq_iff_eq]; omega
      have HV := hid (show Lib.decDigits N = UInt8.ofNat (48 + m % 10) :: l by
        rw [HE.out, Lib.decDigits, dif_pos h0, Nat.mod_eq_of_lt h0]; rfl)
      clear h0
      generalize UInt8.ofNat (48 + m % 10) = c at *
      generalize m % 10 = r at *
      generalize m / 10 = q at *
      have hconv := HCv.out wk
      have hcat := fun X => HCt.out X
      go_wp2
      go_ret
      exact ⟨by rw [HV.out]; rfl, HB.out.trans ((bel_alloc wk _).mono HB.out.size)⟩
    · have hz : (((m / 10 : Nat) : Int) == 0) = false := by rw [beq_eq_false_iff_ne]; omega
      have HV := hid (show Lib.decDigits N = Lib.decDigits (m / 10) ++ UInt8.ofNat (48 + m % 10) :: l by
        rw [HE.out, Lib.decDigits, dif_neg h0, List.append_assoc]; rfl)
      have hqm : m / 10 ≤ N := by omega
      have hlt : m / 10 < m := by omega
      clear h0
      generalize UInt8.ofNat (48 + m % 10) = c at *
      generalize m % 10 = r at *
      generalize m / 10 = q at *
      have hconv := HCv.out wk
      have hcat := fun X => HCt.out X
      go_wp2
      go_roundw
      case rel => exact ⟨q, c :: l, hqm, rfl, rfl, HV, hid (HB.out.trans ((bel_alloc wk _).mono HB.out.size))⟩
      case measure => simp [intOf]; omega
end Go.Proofs.YtmabciajhmjmeaaGreatDoor
