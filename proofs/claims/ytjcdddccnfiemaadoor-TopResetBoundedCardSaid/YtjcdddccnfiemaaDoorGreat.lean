/-
  grooveref33.Great: whether a code is larger than the statements examine.
  No condition beyond the words lying in a slice.
-/
import Derived.Test.YtjcdddccnfiemaaDoorCodeCk
namespace Go.Proofs.YtjcdddccnfiemaaDoor
open Go.RowKit
set_option linter.unusedVariables false

def bigL (k : Nat) : Bool := (decide (8 < k) && decide (k ≤ 64)) || decide (65 < k)
def bigW (k : Nat) : Bool := (decide (8 < k) && decide (k ≤ 32)) || decide (33 < k)
def greatB (ws : List ByteArray) : Bool := bigL ws.length || ws.any (fun x => bigW x.size)

set_option maxRecDepth 100000 in
set_option maxHeartbeats 2000000 in
theorem great_any (q : Int) (v : Value) (ws : List ByteArray) (w : World) (hl : Sl 1 w v ws.length (strs ws)) :
    Calls Tryd.prog 10 #[.agg #[.int .i64 q, v]] w fun e w' => e = .returned (.bool (greatB ws)) ∧ Below w.heap.size w w' := by
  have HL := hid hl
  obtain ⟨ao, cap, rfl, _, hl1, hl2, hl3⟩ := hl
  clear hl3
  cases hb : bigL ws.length
  · have HE := hid (show greatB ws = ws.any (fun x => bigW x.size) by rw [greatB, hb]; rfl)
    go_enter Tryd.func10, Tryd.ntmps10
    go_upto_region 1 with fail
    obtain ⟨w0, hw0⟩ : ∃ w0, w.alloc (.cells #[.int .i64 q, .slice ao ws.length cap] 24) = w0 := ⟨_, rfl⟩
    obtain ⟨hb0, c0, c1⟩ := boxed hw0
    rw [hw0]
    have HB0 := hid hb0
    have HC := hid c1
    clear hw0 hb0 c0
    have hk : ws.length ≤ 65 := by
      simp only [bigL, Bool.or_eq_false_iff, Bool.and_eq_false_iff, decide_eq_false_iff_not] at hb
      omega
    have hk2 : ws.length ≤ 8 ∨ ws.length = 65 := by
      simp only [bigL, Bool.or_eq_false_iff, Bool.and_eq_false_iff, decide_eq_false_iff_not] at hb
      omega
    clear hb
    have key : ∀ g : Prop, (ws.length ≤ 8 → g) → (ws.length = 65 → g) → g := fun g h1 h2 => hk2.elim h1 h2
    apply key
    all_goals
      intro hkk
      have d1 : decide (8 < (ws.length : Int)) = decide (8 < ws.length) := by rw [decide_eq_decide]; omega
      clear hk2 key
      have HKK := hid hkk
      first
        | (have e8 : ¬ 8 < ws.length := by omega
           have e9 : ¬ 65 < ws.length := by omega
           clear hkk
           have e7 : ws.length ≤ 8 := by omega)
        | (have e8 : 8 < ws.length := by omega
           have e9 : ¬ 65 < ws.length := by omega
           have e10 : ¬ ws.length ≤ 64 := by omega
           clear hkk)
      go_upto_region 4 with fail
      clear c1
      go_loopw [3] (fun i wr => ∃ k : Nat, k ≤ ws.length ∧ i = .int .i64 k ∧ Dr w0 wr ∧ Hid (greatB ws = (ws.drop k).any (fun x => bigW x.size))) (fun i _ => ws.length - (intOf i).toNat)
      case atStart => exact ⟨0, Nat.zero_le _, rfl, Dr.refl _, HE⟩
      case round =>
        obtain ⟨k, hk', rfl, hD, HK⟩ := hrel
        have HD := hid hD
        have c1 := keeps (hD.below _) HC.out
        clear hD
        by_cases hlt : k < ws.length
        · obtain ⟨x, hxk⟩ := some_of_lt hlt
          obtain ⟨bx, ox, rfl, cx⟩ := (HL.out.below (bel_step HB0.out (HD.out.below _))).cell (strs_get hxk)
          have HX := hid hxk
          clear hxk
          cases hbx : bigW x.size
          · have HN := hid (show greatB ws = (ws.drop (k + 1)).any (fun x => bigW x.size) by rw [HK.out, drop_cons HX.out, List.any_cons, hbx, Bool.false_or])
            have hs : x.size ≤ 8 ∨ x.size = 33 := by
              simp only [bigW, Bool.or_eq_false_iff, Bool.and_eq_false_iff, decide_eq_false_iff_not] at hbx
              omega
            clear hbx
            rcases hs with hs | hs
            · have g1 : ¬ 8 < x.size := by omega
              have g2 : ¬ 33 < x.size := by omega
              go_wp2
              go_roundw
              case rel => exact ⟨k + 1, by omega, by go_num, HD.out, HN⟩
              case measure => simp [intOf]; omega
            · have g1 : 8 < x.size := by omega
              have g2 : ¬ 33 < x.size := by omega
              have g3 : ¬ x.size ≤ 32 := by omega
              clear hs
              go_wp2
              go_roundw
              case rel => exact ⟨k + 1, by omega, by go_num, HD.out, HN⟩
              case measure => simp [intOf]; omega
          · have HN := hid (show greatB ws = true by rw [HK.out, drop_cons HX.out, List.any_cons, hbx, Bool.true_or])
            have hs : (8 < x.size ∧ x.size ≤ 32) ∨ 33 < x.size := by
              simp only [bigW, Bool.or_eq_true, Bool.and_eq_true, decide_eq_true_eq] at hbx
              omega
            clear hbx
            rcases hs with ⟨g1, g2⟩ | g1
            · go_wp2
              go_ret
              exact ⟨ret_bool HN.out.symm, bel_step HB0.out (HD.out.below _)⟩
            · have g2 : 8 < x.size := by omega
              have g3 : ¬ x.size ≤ 32 := by omega
              go_wp2
              go_ret
              exact ⟨ret_bool HN.out.symm, bel_step HB0.out (HD.out.below _)⟩
        · go_wp2
          go_ret
          exact ⟨ret_bool (by rw [HK.out, drop_all (by omega)]; rfl), bel_step HB0.out (HD.out.below _)⟩
  · have HE := hid (show greatB ws = true by rw [greatB, hb]; rfl)
    have hs : (8 < ws.length ∧ ws.length ≤ 64) ∨ 65 < ws.length := by
      simp only [bigL, Bool.or_eq_true, Bool.and_eq_true, decide_eq_true_eq] at hb
      omega
    clear hb
    rcases hs with ⟨g1, g2⟩ | g1
    · go_enter Tryd.func10, Tryd.ntmps10
      go_wp2
      go_ret
      exact ⟨ret_bool HE.out.symm, bel_alloc _ _⟩
    · have g2 : 8 < ws.length := by omega
      have g3 : ¬ ws.length ≤ 64 := by omega
      go_enter Tryd.func10, Tryd.ntmps10
      go_wp2
      go_ret
      exact ⟨ret_bool HE.out.symm, bel_alloc _ _⟩
end Go.Proofs.YtjcdddccnfiemaaDoor
