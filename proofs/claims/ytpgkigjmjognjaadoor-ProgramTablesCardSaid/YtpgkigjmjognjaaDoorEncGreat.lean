/-
  grooveref25.Great: whether an encoder is larger than the statements examine.
  No condition beyond the rows lying in a slice.
-/
import Derived.Test.YtpgkigjmjognjaaDoorEncRef
namespace Go.Proofs.YtpgkigjmjognjaaDoor
open Go.RowKit Go.Deep
set_option linter.unusedVariables false

def gCell (c : Cl) : Bool := decide (20 < c.word.size)
def gRow (r : List Cl) : Bool := decide (6 < r.length) || r.any gCell
def gEnc (rows : List (List Cl)) : Bool := (decide (6 < rows.length) && decide (rows.length ≤ 64)) || decide (65 < rows.length) || rows.any gRow
theorem gRow_no {r : List Cl} (h : gRow r = false) : r.length ≤ 6 ∧ r.any gCell = false := by
  simp only [gRow, Bool.or_eq_false_iff, decide_eq_false_iff_not] at h
  exact ⟨by omega, h.2⟩
theorem gEnc_valid {q bl inp : Int} {rows : List (List Cl)} (h : gEnc rows = false) (hv : EncV q bl inp rows) : rows.length ≤ 6 ∧ inp ≤ 6 := by
  simp only [gEnc, Bool.or_eq_false_iff, Bool.and_eq_false_iff, decide_eq_false_iff_not] at h
  have h1 := hv.r1
  have h2 := hv.r64
  refine ⟨by omega, ?_⟩
  obtain ⟨r, hr⟩ := some_of_lt (show 0 < rows.length by omega)
  have hm := List.mem_of_getElem? hr
  have h3 := hv.len r hm
  have h4 := (gRow_no (by have := List.any_eq_false.1 h.2 r hm; simpa using this)).1
  omega

set_option maxRecDepth 100000 in
set_option maxHeartbeats 4000000 in
theorem egreat_any (q bl inp : Int) (v : Value) (rows : List (List Cl)) (w : World) (hM : MC w v rows) :
    Calls Tryd.prog 4 #[.agg #[.int .i64 q, .int .i64 bl, .int .i64 inp, v]] w fun e w' => e = .returned (.bool (gEnc rows)) ∧ Below w.heap.size w w' := by
  have HM := hid hM
  obtain ⟨ao, cap, rfl, hc1, hc2⟩ := hM.slice
  clear hM
  go_enter Tryd.func4, Tryd.ntmps4
  go_upto_region 1 with fail
  obtain ⟨w0, hw0⟩ : ∃ w0, w.alloc (.cells #[.int .i64 q, .int .i64 bl, .int .i64 inp, .slice ao rows.length cap] 24) = w0 := ⟨_, rfl⟩
  obtain ⟨hb0, _, _, _, c3⟩ := boxedE hw0
  rw [hw0]
  have HB0 := hid hb0
  clear hw0 hb0
  have HEq := hid (show gEnc rows = ((decide (6 < rows.length) && decide (rows.length ≤ 64)) || decide (65 < rows.length) || rows.any gRow) from rfl)
  generalize hn : rows.length = n at *
  have HN := hid hn
  clear hn
  by_cases a1 : 6 < n ∧ n ≤ 64
  · have HE := hid (show gEnc rows = true by rw [HEq.out, decide_eq_true a1.1, decide_eq_true a1.2]; rfl)
    obtain ⟨a2, a3⟩ := a1
    go_wp2
    go_ret
    exact ⟨ret_bool HE.out.symm, HB0.out⟩
  by_cases a2 : 65 < n
  · have HE := hid (show gEnc rows = true by rw [HEq.out, decide_eq_true a2]; simp)
    clear a1
    have a3 : 6 < n := by omega
    have a4 : ¬ n ≤ 64 := by omega
    go_wp2
    go_ret
    exact ⟨ret_bool HE.out.symm, HB0.out⟩
  have HE := hid (show gEnc rows = (rows.drop 0).any gRow by
    rw [HEq.out, List.drop_zero]
    have h1 : (decide (6 < n) && decide (n ≤ 64)) = false := by rw [Bool.and_eq_false_iff, decide_eq_false_iff_not, decide_eq_false_iff_not]; omega
    rw [h1, decide_eq_false a2]; rfl)
  have hN65 : n ≤ 65 := by omega
  have HC := hid c3
  have key : ∀ g : Prop, (n ≤ 6 → g) → (n = 65 → g) → g := fun g h1 h2 => (show n ≤ 6 ∨ n = 65 by omega).elim h1 h2
  clear HEq c3
  apply key
  all_goals
    intro hkk
    have c3 := HC.out
    clear key a1
    first
      | (have b1 : ¬ 6 < n := by omega
         clear hkk)
      | (have b1 : 6 < n := by omega
         have b2 : ¬ n ≤ 64 := by omega
         clear hkk)
    go_wp2_with fail
    clear c3 a2 b1
    go_loopw [3] (fun i wr => ∃ k : Nat, k ≤ n ∧ i = .int .i64 (k : Int) ∧ Dr w0 wr ∧ Hid (gEnc rows = (rows.drop k).any gRow)) (fun i _ => n - (intOf i).toNat)
    case atStart => exact ⟨0, Nat.zero_le _, rfl, Dr.refl _, HE⟩
    case round =>
      obtain ⟨k, hk, rfl, hD, HK⟩ := hrel
      have HD := hid hD
      have c3 := keeps (hD.below _) HC.out
      have HB := hid (HB0.out.trans ((hD.below _).mono HB0.out.size))
      clear hD
      rename World => wm
      by_cases hlt : k < n
      · obtain ⟨row, hrow⟩ := some_of_lt (show k < rows.length by rw [HN.out]; exact hlt)
        obtain ⟨b, o, r, c, rfl, n1, hS⟩ := (HM.out.below HB.out).row hrow
        have HR := hid hrow
        have HS := hid hS
        clear hrow hS
        by_cases hlen : 6 < row.length
        · have HE := hid (show gEnc rows = true by rw [HK.out, drop_cons HR.out, List.any_cons, gRow, decide_eq_true hlen]; rfl)
          go_wp2
          go_ret
          exact ⟨ret_bool HE.out.symm, HB.out⟩
        · have HG := hid (show gRow row = row.any gCell by rw [gRow, decide_eq_false hlen]; rfl)
          have hl6 : row.length ≤ 6 := by omega
          have HLn := hid hlen
          go_wp2_with fail
          clear hlen
          have HCn := hid (And.intro c3 n1)
          clear c3 n1
          go_loopw [4] (fun i wr => ∃ j : Nat, j ≤ row.length ∧ i = .int .i64 (j : Int) ∧ Dr wm wr ∧ Hid (row.any gCell = (row.drop j).any gCell)) (fun i _ => row.length - (intOf i).toNat)
          case atStart => exact ⟨0, Nat.zero_le _, rfl, Dr.refl _, hid (by rw [List.drop_zero])⟩
          case round =>
            obtain ⟨j, hj, rfl, hD2, HJ⟩ := hrel
            have HD2 := hid hD2
            have c3 := keeps (hD2.below _) HCn.out.1
            have n1 := keeps (hD2.below _) HCn.out.2
            have HS2 := hid (HS.out.below (hD2.below _))
            clear hD2
            rename World => wn
            have HBn := hid (HB.out.trans ((HD2.out.below _).mono HB.out.size))
            by_cases hlj : j < row.length
            · obtain ⟨x, hx⟩ := some_of_lt hlj
              obtain ⟨b2, o2, rfl, m1, m2⟩ := HS2.out.cl hx
              have HX := hid hx
              clear hx m1
              by_cases g : 20 < x.word.size
              · have HE := hid (show gEnc rows = true by rw [HK.out, drop_cons HR.out, List.any_cons, HG.out, HJ.out, drop_cons HX.out, List.any_cons, gCell, decide_eq_true g]; rfl)
                go_wp2
                go_ret
                exact ⟨ret_bool HE.out.symm, HBn.out⟩
              · have HJ2 := hid (show row.any gCell = (row.drop (j + 1)).any gCell by rw [HJ.out, drop_cons HX.out, List.any_cons, gCell, decide_eq_false g]; rfl)
                go_wp2
                go_roundw
                case rel => exact ⟨j + 1, by omega, by go_num, HD2.out, HJ2⟩
                case measure => simp [intOf]; omega
            · obtain rfl : j = row.length := by omega
              have HN2 := hid (show gEnc rows = (rows.drop (k + 1)).any gRow by rw [HK.out, drop_cons HR.out, List.any_cons, HG.out, HJ.out, drop_all (Nat.le_refl _)]; rfl)
              go_wp2
              go_roundw
              case rel => exact ⟨k + 1, by omega, by go_num, HD.out.trans HD2.out, HN2⟩
              case measure => simp [intOf]; omega
      · obtain rfl : k = n := by omega
        have HE := hid (show gEnc rows = false by rw [HK.out, drop_all (Nat.le_of_eq HN.out)]; rfl)
        go_wp2
        go_ret
        exact ⟨ret_bool HE.out.symm, HB.out⟩
end Go.Proofs.YtpgkigjmjognjaaDoor
