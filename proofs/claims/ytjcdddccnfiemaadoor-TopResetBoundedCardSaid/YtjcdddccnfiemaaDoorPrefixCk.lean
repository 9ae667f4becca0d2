/-
  code.alone at strings.HasPrefix, code.Prefix and parser.prefix: whether no word of a code begins with another one.
  No condition beyond the words lying in a slice.
-/
import Derived.Test.YtjcdddccnfiemaaDoorCodeCk
namespace Go.Proofs.YtjcdddccnfiemaaDoor
open Go.RowKit
set_option linter.unusedVariables false

def freeB (ws : List ByteArray) : Bool := (List.range ws.length).all fun i => (List.range ws.length).all fun k => i == k || !begW (ws.getD i default) (ws.getD k default)
theorem freeB_iff {ws : List ByteArray} : freeB ws = true ↔ freeW ws := by
  unfold freeB freeW
  simp only [List.all_eq_true, List.mem_range, Bool.or_eq_true, beq_iff_eq, Bool.not_eq_true']
  constructor
  · intro h i k x y hx hy hne
    have := h i (lt_of_some hx) k (lt_of_some hy)
    rw [List.getD_eq_getElem?_getD, hx, List.getD_eq_getElem?_getD, hy] at this
    exact this.resolve_left hne
  · intro h i hi k hk
    obtain ⟨x, hx⟩ := some_of_lt hi
    obtain ⟨y, hy⟩ := some_of_lt hk
    by_cases e : i = k
    · exact .inl e
    · rw [List.getD_eq_getElem?_getD, hx, List.getD_eq_getElem?_getD, hy]
      exact .inr (h i k x y hx hy e)
theorem freeB_hit {ws : List ByteArray} {i k : Nat} {x y : ByteArray} (hx : ws[i]? = some x) (hy : ws[k]? = some y) (hne : i ≠ k) (h : begW x y = true) : freeB ws = false := by
  rw [Bool.eq_false_iff]
  intro hf
  have := freeB_iff.1 hf i k x y hx hy hne
  rw [h] at this
  cases this
theorem freeB_all {ws : List ByteArray} (h : ∀ (i k : Nat) (x y : ByteArray), i < ws.length → ws[i]? = some x → ws[k]? = some y → i ≠ k → begW x y = false) : freeB ws = true := freeB_iff.2 fun i k x y hx hy hne => h i k x y (lt_of_some hx) hx hy hne

set_option maxRecDepth 100000 in
set_option maxHeartbeats 2000000 in
theorem alone_any (q : Int) (v : Value) (ws : List ByteArray) (w : World) (hl : Sl 1 w v ws.length (strs ws)) :
    Calls Tryd.prog 66 #[.agg #[.int .i64 q, v], .func (.func 19) #[] #[]] w fun e w' => e = .returned (.tuple #[.bool (decide (codeErr q ws = 0) && freeB ws), .int .i64 (if codeErr q ws = 0 then 0 else 1)]) ∧ Below w.heap.size w w' := by
  have HL := hid hl
  have HCk := hid (fun X h => ccheck_any q v ws X h)
  obtain ⟨ao, cap, rfl, _, hl1, hl2, hl3⟩ := hl
  clear hl3
  by_cases hE : codeErr q ws = 0
  · have hE2 : (codeErr q ws != 0) = false := by simp [hE]
    rw [if_pos hE, decide_eq_true hE, Bool.true_and]
    generalize codeErr q ws = E at *
    go_enter Tryd.func66, Tryd.ntmps66
    go_upto_region 1 with fail
    obtain ⟨w0, hw0⟩ : ∃ w0, w.alloc (.cells #[.int .i64 q, .slice ao ws.length cap] 24) = w0 := ⟨_, rfl⟩
    obtain ⟨hb0, c0, c1⟩ := boxed hw0
    rw [hw0]
    clear hw0
    have HB0 := hid hb0
    go_upto_region 4 with (go_at_call 31; refine (HCk.out _ (HL.out.below HB0.out)).mono ?_; rintro e w1 ⟨rfl, hb1⟩; have c0 := keeps hb1 c0; have c1 := keeps hb1 c1)
    have HB1 := hid (bel_step HB0.out hb1)
    have HC1 := hid c1
    have HL1 := hid (HL.out.below HB1.out)
    clear HCk hb0 hb1 c0 HB0 HL
    go_loopw [16] (fun i wr => ∃ m : Nat, m ≤ ws.length ∧ i = .int .i64 m ∧ Dr w1 wr ∧ Hid (∀ (j k : Nat) (x y : ByteArray), j < m → ws[j]? = some x → ws[k]? = some y → j ≠ k → begW x y = false)) (fun i _ => ws.length - (intOf i).toNat)
    case atStart => exact ⟨0, Nat.zero_le _, rfl, Dr.refl _, hid (fun j k x y h => by omega)⟩
    case round =>
      obtain ⟨m, hm, rfl, hD, HK⟩ := hrel
      have HD := hid hD
      have c1 := keeps (hD.below _) HC1.out
      clear hD
      by_cases hlt : m < ws.length
      · obtain ⟨x, hx⟩ := some_of_lt hlt
        obtain ⟨b, o, rfl, cx⟩ := (HL1.out.dr HD.out).cell (strs_get hx)
        have HX := hid hx
        clear hx
        go_upto_region 7 with fail
        clear cx c1
        go_loopw [24] (fun i w2 => ∃ n : Nat, n ≤ ws.length ∧ i = .int .i64 n ∧ Dr w1 w2 ∧ Hid (∀ (k : Nat) (y : ByteArray), k < n → ws[k]? = some y → m ≠ k → begW x y = false)) (fun i _ => ws.length - (intOf i).toNat)
        case atStart => exact ⟨0, Nat.zero_le _, rfl, HD.out, hid (fun k y h => by omega)⟩
        case round =>
          obtain ⟨n, hn, rfl, hD2, HN⟩ := hrel
          have HD2 := hid hD2
          clear hD2 HD
          by_cases hlt2 : n < ws.length
          · obtain ⟨y, hy⟩ := some_of_lt hlt2
            obtain ⟨b2, o2, e2, cy⟩ := (HL1.out.dr HD2.out).cell (strs_get hy)
            simp only [Option.some.injEq, Addr.mk.injEq, and_true] at e2
            obtain ⟨rfl, rfl⟩ := e2
            have HY := hid hy
            clear hy
            by_cases hmn : m = n
            · have hb : ((m : Int) != (n : Int)) = false := by simp [hmn]
              have HM := hid hmn
              clear hmn
              go_wp2
              go_roundw
              case rel => exact ⟨n + 1, by omega, by go_num, HD2.out, hid (fun k y' hk hy' hne => HN.out k y' (by have := HM.out; omega) hy' hne)⟩
              case measure => simp [intOf]; omega
            · have hb : ((m : Int) != (n : Int)) = true := by simp; omega
              have HM := hid hmn
              clear hmn
              cases hbw : begW x y
              · have HBW := hid hbw
                have HP := hid (show ∀ X, Calls Tryd.prog 19 #[.string x, .string y] X fun e w' => e = .returned (.bool false) ∧ w' = X from fun X => by
                  have := Tryd.strings_HasPrefix x y X
                  rwa [show Lib.hasPrefix x.data.toList y.data.toList = false from hbw] at this)
                clear hbw
                go_wp2_with (go_at_call 19; refine (HP.out _).mono ?_; rintro e w3 ⟨rfl, rfl⟩)
                go_roundw
                case rel => exact ⟨n + 1, by omega, by go_num, HD2.out, hid (fun k y' hk hy' hne => by
                  by_cases e : k = n
                  · subst e
                    have h2 := HY.out
                    rw [hy'] at h2
                    rw [Option.some.inj h2]
                    exact HBW.out
                  · exact HN.out k y' (by omega) hy' hne)⟩
                case measure => simp [intOf]; omega
              · have HF := hid (freeB_hit HX.out HY.out HM.out hbw)
                have HP := hid (show ∀ X, Calls Tryd.prog 19 #[.string x, .string y] X fun e w' => e = .returned (.bool true) ∧ w' = X from fun X => by
                  have := Tryd.strings_HasPrefix x y X
                  rwa [show Lib.hasPrefix x.data.toList y.data.toList = true from hbw] at this)
                clear hbw
                go_wp2_with (go_at_call 19; refine (HP.out _).mono ?_; rintro e w3 ⟨rfl, rfl⟩)
                go_ret2
                exact ⟨by rw [HF.out]; rfl, bel_step HB1.out (HD2.out.below _)⟩
          · go_wp2
            go_roundw
            case rel => exact ⟨m + 1, by omega, by go_num, HD2.out, hid (fun j k x' y hj hx' hy hne => by
              by_cases e : j = m
              · subst e
                have h2 := HX.out
                rw [hx'] at h2
                rw [Option.some.inj h2]
                exact HN.out k y (by have := lt_of_some hy; omega) hy hne
              · exact HK.out j k x' y (by omega) hx' hy hne)⟩
            case measure => simp [intOf]; omega
      · go_wp2
        go_ret2
        have e : freeB ws = true := freeB_all fun j k x y hj => HK.out j k x y (by omega)
        exact ⟨by rw [e]; rfl, bel_step HB1.out (HD.out.below _)⟩
  · have hE2 : (codeErr q ws != 0) = true := by simp [hE]
    rw [if_neg hE, decide_eq_false hE, Bool.false_and]
    generalize codeErr q ws = E at *
    go_enter Tryd.func66, Tryd.ntmps66
    go_wp2_with (go_at_call 31; refine (HCk.out _ (HL.out.below (bel_alloc _ _))).mono ?_; rintro e w1 ⟨rfl, hb1⟩)
    go_ret2
    exact ⟨rfl, bel_step (bel_alloc _ _) hb1⟩

theorem cprefix_any (q : Int) (v : Value) (ws : List ByteArray) (w : World) (hl : Sl 1 w v ws.length (strs ws)) :
    Calls Tryd.prog 48 #[.agg #[.int .i64 q, v]] w fun e w' => e = .returned (.tuple #[.bool (decide (codeErr q ws = 0) && freeB ws), .int .i64 (if codeErr q ws = 0 then 0 else 1)]) ∧ Below w.heap.size w w' := by
  have HL := hid hl
  have HA := hid (fun X h => alone_any q v ws X h)
  generalize (decide (codeErr q ws = 0) && freeB ws) = F at *
  generalize (if codeErr q ws = 0 then (0 : Int) else 1) = E at *
  obtain ⟨ao, cap, rfl, _⟩ := hl
  go_enter Tryd.func48, Tryd.ntmps48
  go_wp2_with (go_at_call 66; refine (HA.out _ (HL.out.below (bel_alloc _ _))).mono ?_; rintro e w1 ⟨rfl, hb1⟩)
  go_ret2
  exact ⟨rfl, bel_step (bel_alloc _ _) hb1⟩
/-- Is it a valid code of which no word begins with another one? -/
def goodB (q : Int) (ws : List ByteArray) : Bool := decide (codeErr q ws = 0) && freeB ws
theorem goodB_iff {q : Int} {ws : List ByteArray} : goodB q ws = true ↔ codeErr q ws = 0 ∧ freeW ws := by
  simp [goodB, freeB_iff]
theorem pprefix_any (q : Int) (v : Value) (ws : List ByteArray) (w : World) (hl : Sl 1 w v ws.length (strs ws)) :
    Calls Tryd.prog 32 #[.agg #[.int .i64 q, v]] w fun e w' => e = .returned (.bool (goodB q ws)) ∧ Below w.heap.size w w' := by
  have HL := hid hl
  have HA := hid (fun X h => cprefix_any q v ws X h)
  by_cases hE : codeErr q ws = 0
  · have hg : goodB q ws = (decide (codeErr q ws = 0) && freeB ws) := rfl
    rw [← hg, if_pos hE] at HA
    clear hg
    generalize goodB q ws = F at *
    obtain ⟨ao, cap, rfl, _⟩ := hl
    go_enter Tryd.func32, Tryd.ntmps32
    go_wp2_with (go_at_call 48; refine (HA.out _ (HL.out.below (bel_alloc _ _))).mono ?_; rintro e w1 ⟨rfl, hb1⟩)
    go_ret
    exact ⟨rfl, bel_step (bel_alloc _ _) hb1⟩
  · have hg : goodB q ws = false := by simp [goodB, hE]
    rw [hg]
    rw [if_neg hE, decide_eq_false hE, Bool.false_and] at HA
    clear hg
    obtain ⟨ao, cap, rfl, _⟩ := hl
    go_enter Tryd.func32, Tryd.ntmps32
    go_wp2_with (go_at_call 48; refine (HA.out _ (HL.out.below (bel_alloc _ _))).mono ?_; rintro e w1 ⟨rfl, hb1⟩)
    go_ret
    exact ⟨rfl, bel_step (bel_alloc _ _) hb1⟩
end Go.Proofs.YtjcdddccnfiemaaDoor
