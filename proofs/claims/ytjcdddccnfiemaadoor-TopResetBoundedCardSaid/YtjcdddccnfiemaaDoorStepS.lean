/-
  reset.step: where a letter leads from a set of states.
  The automaton has at most 16 states; what TrailingZeros yields is a hypothesis.
-/
import Derived.Test.YtjcdddccnfiemaaDoorAid
import Derived.Test.YtjcdddccnfiemaaDoorBitSet
import Derived.Laws.Bits64b
import Derived.Deep.QuietTactic
namespace Go.Proofs.YtjcdddccnfiemaaDoor
open Go.RowKit
set_option linter.unusedVariables false

/-- What TrailingZeros yields. -/
def TzAt (w : World) : Prop := ∀ (x : Nat) (X : World), 0 < x → x < 65536 → Below w.heap.size w X → Calls Tryd.prog 64 #[.int .u64 (x : Int)] X fun e X' => e = .returned (.int .i64 (Lib.ctz 64 x)) ∧ X = X'
theorem or_i64 (a b : Nat) (ha : a < 65536) (hb : b < 65536) : bits .or .i64 (a : Int) (b : Int) = ((a ||| b : Nat) : Int) := by
  have hx : a ||| b < 2 ^ 16 := Nat.or_lt_two_pow (by omega) (by omega)
  have h1 : (BitVec.ofInt 64 (a : Int)).toNat = a := by
    rw [BitVec.ofInt_natCast, BitVec.toNat_ofNat]; exact Nat.mod_eq_of_lt (by omega)
  have h2 : (BitVec.ofInt 64 (b : Int)).toNat = b := by
    rw [BitVec.ofInt_natCast, BitVec.toNat_ofNat]; exact Nat.mod_eq_of_lt (by omega)
  show IntKind.i64.wrap ((BitVec.ofInt 64 (a : Int) ||| BitVec.ofInt 64 (b : Int)).toNat : Int) = _
  rw [BitVec.toNat_or, h1, h2]
  exact IntWalk.i64_in _ (by omega)
set_option maxRecDepth 100000 in
set_option maxHeartbeats 4000000 in
theorem step_any (Q : Int) (v : Value) (n m a S : Nat) (f : Nat → Nat → Int) (w : World) (hM : Mt w v n m f) (hf : ∀ i < n, ∀ j < m, 0 ≤ f i j ∧ f i j < n) (hn : n ≤ 16) (ha : a < m) (hS : S < 2 ^ n) (hT : TzAt w) :
    Calls Tryd.prog 44 #[.agg #[.int .i64 Q, v], .int .i64 (S : Int), .int .i64 (a : Int)] w fun e w' => ∃ O : Nat, e = .returned (.int .i64 (O : Int)) ∧ ImgOf S (fun s => (f s a).toNat) O ∧ Below w.heap.size w w' := by
  have HM := hid hM
  have HT := hid hT
  have HF := hid hf
  obtain ⟨ao, cap, rfl, hc1, hc2⟩ := hM.slice
  have h16 : (2 : Nat) ^ n ≤ 65536 := Nat.le_trans (Nat.pow_le_pow_right (by decide) hn) (by decide)
  clear hM hT hf
  go_enter Tryd.func44, Tryd.ntmps44
  go_upto_region 1 with fail
  obtain ⟨w0, hw0⟩ : ∃ w0, w.alloc (.cells #[.int .i64 Q, .slice ao n cap] 29) = w0 := ⟨_, rfl⟩
  have hb0 : Below w.heap.size w w0 := by rw [← hw0]; exact bel_alloc _ _
  have c1 : w0.cell? ⟨w.heap.size, 1, none⟩ = some (.slice ao n cap) := by rw [← hw0]; simp
  rw [hw0]
  have HB0 := hid hb0
  clear hw0 hb0
  have hSu : IntKind.u64.wrap (S : Int) = (S : Int) := by rw [IntKind.wrap_u64]; omega
  go_wp2_with fail
  clear hSu
  go_loopw [7, 8] (fun o l wr => ∃ O L : Nat, o = .int .i64 (O : Int) ∧ l = .int .u64 (L : Int) ∧ L ≤ S ∧ O < 65536 ∧ ImgInv S (fun s => (f s a).toNat) L O ∧ Dr w0 wr) (fun _ l _ => (intOf l).toNat)
  case atStart => exact ⟨0, S, rfl, rfl, Nat.le_refl _, by decide, ImgInv.start _ _, Dr.refl _⟩
  case round =>
    obtain ⟨O, L, rfl, rfl, hLS, hO, hI, hD⟩ := hrel
    have HI := hid hI
    have HD := hid hD
    have c1 := keeps (hD.below _) c1
    clear hI hD
    rename World => wm
    by_cases h0 : L = 0
    · subst h0
      go_wp2_with fail
      go_ret
      exact ⟨O, rfl, HI.out.done, HB0.out.trans (HD.out.below _)⟩
    · have hL0 : 0 < L := by omega
      have hL6 : L < 65536 := by omega
      have hlow := HI.out.1 _ (low_set hL0 (show L < 2 ^ 64 by omega))
      have hx : Lib.ctz 64 L < n := by
        apply Nat.lt_of_not_le
        intro hle
        have h3 : S < 2 ^ Lib.ctz 64 L := Nat.lt_of_lt_of_le hS (Nat.pow_le_pow_right (by decide) hle)
        rw [Nat.testBit_lt_two_pow h3] at hlow
        cases hlow
      have HI2 := hid (HI.out.step hL0 (show L < 2 ^ 64 by omega))
      have HTx := hid (fun X hX => HT.out L X hL0 hL6 hX)
      have HBm := hid (HB0.out.trans (HD.out.below _))
      obtain ⟨br, pr, gr, qr, cr, rfl, q0, q1⟩ := (HM.out.below HBm.out).cell hx ha
      obtain ⟨hf0, hf1⟩ := HF.out _ hx a ha
      generalize hX : Lib.ctz 64 L = X at *
      generalize hV : f X a = V at *
      obtain ⟨P, hP⟩ : ∃ P : Nat, 2 ^ V.toNat = P := ⟨_, rfl⟩
      have hP6 : P ≤ 32768 := by rw [← hP]; exact Nat.le_trans (Nat.pow_le_pow_right (by decide) (show V.toNat ≤ 15 by omega)) (by decide)
      have hsh : IntKind.i64.wrap (2 ^ V.toNat) = (P : Int) := by
        have h1 : ((2 : Int) ^ V.toNat) = (P : Int) := by rw [← hP]; simp
        rw [h1]
        exact IntWalk.i64_in _ (by omega)
      have hor := or_i64 O P hO (by omega)
      have hO2 : O ||| P < 65536 := Nat.or_lt_two_pow (n := 16) hO (by omega)
      have hand := bits_and_u64_nat L (L - 1) (by omega) (by omega)
      have hle : L &&& (L - 1) < L := Nat.lt_of_le_of_lt Nat.and_le_right (by omega)
      have hsub : IntKind.u64.wrap ((L : Int) - 1) = ((L - 1 : Nat) : Int) := by rw [IntKind.wrap_u64]; omega
      rw [hP] at HI2
      generalize hO' : O ||| P = O2 at *
      generalize hL' : L &&& (L - 1) = L2 at *
      generalize L - 1 = L1 at *
      have HS := hid (And.intro hX (And.intro hV (And.intro hP (And.intro hO' hL'))))
      have hxa : (0 : Int) ≤ (X : Int) := by omega
      have hxb : (X : Int) < (n : Int) := by omega
      have haa : (0 : Int) ≤ (a : Int) := by omega
      have hab : (a : Int) < (m : Int) := by omega
      clear hX hV hP hO' hL' hlow h16 hS
      go_upto_region 5 with fail
      go_quiet ((go_at_call 64; exact quietS (HTx.out _ (HBm.out.trans (below_drewN (Below.refl _ _) _)))))
      have HEn := hid (show L2 ≤ S ∧ O2 < 65536 ∧ L2 < L from ⟨by omega, hO2, hle⟩)
      clear hor hO2 hxa hxb haa hab hsh q0 q1 c1 hP6 hf0 hf1 hx
      go_wp2
      go_roundw
      case rel => exact ⟨O2, L2, rfl, rfl, HEn.out.1, HEn.out.2.1, HI2.out, HD.out.drewN _⟩
      case measure => have := HEn.out.2.2; simp [intOf]; omega
end Go.Proofs.YtjcdddccnfiemaaDoor
