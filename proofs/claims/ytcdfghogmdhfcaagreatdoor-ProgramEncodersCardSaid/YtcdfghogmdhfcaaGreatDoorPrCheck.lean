/-
  program.Check: why a program is not valid.
  No condition beyond the instructions and the outputs lying in slices.
-/
import Derived.Test.YtcdfghogmdhfcaaGreatDoorMg10
namespace Go.Proofs.YtcdfghogmdhfcaaGreatDoor
open Go.RowKit
set_option linter.unusedVariables false

theorem boxP {w w0 : World} {n : Int} {vc vo : Value} (h : w.alloc (.cells #[.int .i64 n, vc, vo] 28) = w0) :
    Below w.heap.size w w0 ∧ w0.cell? ⟨w.heap.size, 0, none⟩ = some (.int .i64 n) ∧ w0.cell? ⟨w.heap.size, 1, none⟩ = some vc ∧ w0.cell? ⟨w.heap.size, 2, none⟩ = some vo := by
  subst h
  exact ⟨bel_alloc _ _, by simp, by simp, by simp⟩
theorem boxI {w w0 : World} {x : Ins} (h : w.alloc (.cells #[.int .i64 x.op, .int .i64 x.a, .int .i64 x.b] 47) = w0) :
    Below w.heap.size w w0 ∧ w0.cell? ⟨w.heap.size, 0, none⟩ = some (.int .i64 x.op) ∧ w0.cell? ⟨w.heap.size, 1, none⟩ = some (.int .i64 x.a) ∧ w0.cell? ⟨w.heap.size, 2, none⟩ = some (.int .i64 x.b) := by
  subst h
  exact ⟨bel_alloc _ _, by simp, by simp, by simp⟩
def offB (m k : Int) : Bool := decide (k < 0) || decide (m ≤ k)
set_option maxHeartbeats 400000 in
theorem chk1_any (B m cap : Nat) (ao : Option Addr) (n k : Int) (w : World) (h0 : 0 ≤ n) (h1 : n ≤ 24) (hm : m ≤ 65536) (c0 : w.cell? ⟨B, 0, none⟩ = some (.int .i64 n)) (c1 : w.cell? ⟨B, 1, none⟩ = some (.slice ao m cap)) :
    Calls Tryz.prog 68 #[.int .i64 k, .pointer (some ⟨B, 0, none⟩)] w fun e w' => e = .returned (.bool (offB (n + m) k)) ∧ w = w' := by
  by_cases h2 : k < 0
  · have e : offB (n + m) k = true := by simp [offB, h2]
    rw [e]
    go_enter Tryz.func68, Tryz.ntmps68
    go_wp2
    go_ret
    exact ⟨rfl, rfl⟩
  · have e : offB (n + m) k = decide (n + m ≤ k) := by simp [offB, h2]
    rw [e]
    go_enter Tryz.func68, Tryz.ntmps68
    go_wp2
    go_ret
    exact ⟨rfl, rfl⟩
theorem outs_any (B m cap : Nat) (ao : Option Addr) (n : Int) (v : Value) (xs : List Int) (w : World) (h0 : 0 ≤ n) (h1 : n ≤ 24) (hm : m ≤ 65536) (c0 : w.cell? ⟨B, 0, none⟩ = some (.int .i64 n)) (c1 : w.cell? ⟨B, 1, none⟩ = some (.slice ao m cap)) (hl : Sl 1 w v xs.length (ints xs)) :
    Calls Tryz.prog 67 #[v, .func (.func 68) #[] #[.pointer (some ⟨B, 0, none⟩)]] w fun e w' => e = .returned (.bool (xs.any (offB (n + m)))) ∧ Dr w w' := by
  obtain ⟨ao2, cap2, rfl, h2, h3, h4, h5⟩ := hl
  by_cases hn : xs.length = 0
  · rw [hn]
    refine (Tryz.slices_ContainsFunc_empty (α := Nat) ao2 cap2 _ w).mono ?_
    rintro e w' ⟨rfl, rfl⟩
    have : xs = [] := List.length_eq_zero_iff.1 hn
    subst this
    exact ⟨rfl, Dr.refl _⟩
  · rcases h5 with h5 | ⟨b, o, rfl, hc⟩
    · omega
    · have eg : ∀ args w, (callFunc 68 args).run Tryz.prog w = .ok (.enter 68 args) w := enters_of Tryz.func68 (by kernel_rfl) rfl
      have hp : PredAt Tryz.prog 68 #[.pointer (some ⟨B, 0, none⟩)] (fun x : Int => Value.int .i64 x) (offB (n + m)) w := by
        intro W x hB
        refine (chk1_any B m cap ao n x W h0 h1 hm ?_ ?_).mono ?_
        · exact keeps hB c0
        · exact keeps hB c1
        · rintro e w' ⟨rfl, rfl⟩; exact ⟨rfl, 0, rfl⟩
      refine (Tryz.slices_ContainsFunc _ _ 68 #[.pointer (some ⟨B, 0, none⟩)] eg b o xs.length cap2 xs w hp (by simp) (by omega) fun j hj => ?_).mono ?_
      · rw [hc j (.int .i64 xs[j]!) (by rw [List.getElem!_eq_getElem?_getD]; simp [ints, hj])]
      · rintro e w' ⟨rfl, k, rfl⟩
        refine ⟨ret_bool ?_, k, rfl⟩
        rw [List.take_of_length_le (by simp)]
end Go.Proofs.YtcdfghogmdhfcaaGreatDoor

namespace Go.Proofs.YtcdfghogmdhfcaaGreatDoor
open Go.RowKit
set_option linter.unusedVariables false
theorem insErr_none {n : Int} {x : Ins} (h : ¬ (1 ≤ x.op ∧ x.op ≤ 5)) : insErr n x = 8 := by
  have : usedN x.op = -1 := by unfold usedN; rw [if_neg (by omega), if_neg (by omega), if_neg (by omega)]
  rw [insErr, this]; rfl
/-- The k-th operand. -/
def opdK (x : Ins) (k : Nat) : Int := if k = 0 then x.a else x.b
theorem usedN_range {op : Int} (h1 : 1 ≤ op) (h5 : op ≤ 5) : 0 ≤ usedN op ∧ usedN op ≤ 2 := by
  unfold usedN; split; omega; split; omega; split <;> omega
theorem usedN_none {op : Int} (h : ¬ (1 ≤ op ∧ op ≤ 5)) : usedN op = -1 := by
  unfold usedN; rw [if_neg (by omega), if_neg (by omega), if_neg (by omega)]
theorem insErr_good {n : Int} {x : Ins} (h1 : 1 ≤ x.op) (h5 : x.op ≤ 5) (h : ∀ k, k < 2 → opdB (opdK x k) n (decide ((k : Int) < usedN x.op)) = true) : insErr n x = 0 := by
  have := usedN_range h1 h5
  have ha := h 0 (by omega)
  have hb := h 1 (by omega)
  rw [insErr, if_neg (by omega)]
  simp only [opdK, if_true, if_neg (show ¬ (1 = 0) by omega)] at ha hb
  rw [show decide (0 < usedN x.op) = decide (((0 : Nat) : Int) < usedN x.op) from rfl, show decide (1 < usedN x.op) = decide (((1 : Nat) : Int) < usedN x.op) from rfl, ha, hb]
  rfl
theorem insErr_bad {n : Int} {x : Ins} {k : Nat} (h1 : 1 ≤ x.op) (h5 : x.op ≤ 5) (hk : k < 2) (h : opdB (opdK x k) n (decide ((k : Int) < usedN x.op)) = false) : insErr n x = 2 := by
  have := usedN_range h1 h5
  rw [insErr, if_neg (by omega)]
  have hk2 : k = 0 ∨ k = 1 := by omega
  rcases hk2 with rfl | rfl
  · simp only [opdK, if_true] at h
    rw [show decide (0 < usedN x.op) = decide (((0 : Nat) : Int) < usedN x.op) from rfl, h]
    rfl
  · simp only [opdK, if_neg (show ¬ (1 = 0) by omega)] at h
    rw [show decide (1 < usedN x.op) = decide (((1 : Nat) : Int) < usedN x.op) from rfl, h, Bool.and_false]
    rfl
theorem pcodeErr_here {c : List Ins} {n : Int} {k : Nat} {x : Ins} (h : ∀ (i : Nat) x, i < k → c[i]? = some x → insErr (n + i) x = 0) (hx : c[k]? = some x) (h2 : insErr (n + k) x ≠ 0) : pcodeErr n c = insErr (n + k) x := by
  rw [pcodeErr_drop h, drop_cons hx, pcodeErr, if_pos h2]
theorem pcodeErr_all {c : List Ins} {n : Int} (h : ∀ (i : Nat) x, i < c.length → c[i]? = some x → insErr (n + i) x = 0) : pcodeErr n c = 0 := by
  rw [pcodeErr_drop h, drop_all (Nat.le_refl _)]
  rfl
theorem poutErr_eq (n : Int) (o : List Int) : poutErr n o = if o.any (offB n) then 2 else 0 := rfl

set_option maxRecDepth 100000 in
set_option maxHeartbeats 2000000 in
theorem pcheck_any (n : Int) (vc vo : Value) (c : List Ins) (o : List Int) (w : World) (hc : Sl 3 w vc c.length (icells c)) (ho : Sl 1 w vo o.length (ints o)) :
    Calls Tryz.prog 39 #[.agg #[.int .i64 n, vc, vo]] w fun e w' => e = .returned (.int .i64 (progErr n c o)) ∧ Below w.heap.size w w' := by
  have HC := hid hc
  have HO := hid ho
  have HOps := hid operations_any
  have HOuts := hid outs_any
  obtain ⟨ac, cc, rfl, _, hc1, hc2, hc3⟩ := hc
  obtain ⟨ao, co, rfl, _, ho1, ho2, ho3⟩ := ho
  clear hc3 ho3
  by_cases h1 : n < 0 ∨ 24 < n
  · have e : progErr n c o = 2 := by rw [progErr, if_pos h1]
    rw [e]
    rcases h1 with h1 | h1
    · go_enter Tryz.func39, Tryz.ntmps39
      go_wp2
      go_ret
      exact ⟨rfl, bel_alloc _ _⟩
    · have h0 : ¬ n < 0 := by omega
      go_enter Tryz.func39, Tryz.ntmps39
      go_wp2
      go_ret
      exact ⟨rfl, bel_alloc _ _⟩
  · have h1a : 0 ≤ n := by omega
    have h1b : n ≤ 24 := by omega
    by_cases h2 : 65536 < c.length ∨ 65536 < o.length
    · have e : progErr n c o = 4 := by rw [progErr, if_neg h1, if_pos h2]
      rw [e]
      clear h1
      by_cases h3 : 65536 < c.length
      · go_enter Tryz.func39, Tryz.ntmps39
        go_wp2
        go_ret
        exact ⟨rfl, bel_alloc _ _⟩
      · have h4 : 65536 < o.length := by omega
        clear h2
        go_enter Tryz.func39, Tryz.ntmps39
        go_wp2
        go_ret
        exact ⟨rfl, bel_alloc _ _⟩
    · have HE := hid (show progErr n c o = if pcodeErr n c ≠ 0 then pcodeErr n c else poutErr (n + c.length) o by rw [progErr, if_neg h1, if_neg h2])
      have h3 : c.length ≤ 65536 := by omega
      have h4 : o.length ≤ 65536 := by omega
      clear h1 h2
      go_enter Tryz.func39, Tryz.ntmps39
      go_upto_region 1 with fail
      obtain ⟨w0, hw0⟩ : ∃ w0, w.alloc (.cells #[.int .i64 n, .slice ac c.length cc, .slice ao o.length co] 28) = w0 := ⟨_, rfl⟩
      obtain ⟨hb0, c0, c1, c2⟩ := boxP hw0
      rw [hw0]
      have HB0 := hid hb0
      clear hw0 hb0
      go_upto_region 6 with (first
        | (go_at_call 42; refine (HOps.out _).mono ?_; rintro e w1 ⟨rfl, hb1⟩)
        | (refine wpList_store_ops w1 _ rfl _ _ rfl rfl rfl rfl ?_; intro w2 hOps2 hb2 hlt2))
      have HOp := hid hOps2
      have HB2 := hid (bel_step (bel_step HB0.out hb1) hb2)
      have HG := hid hlt2
      have c0 := keeps hb2 (keeps hb1 c0)
      have c1 := keeps hb2 (keeps hb1 c1)
      have c2 := keeps hb2 (keeps hb1 c2)
      generalize w1.heap.size = g at *
      clear hOps2 hb1 hb2 hlt2 HB0 HOps
      go_wp2_with fail
      go_loopw [33] (fun i wr => ∃ k : Nat, k ≤ c.length ∧ i = .int .i64 k ∧ Below w2.heap.size w2 wr ∧ Hid (∀ (i : Nat) x, i < k → c[i]? = some x → insErr (n + i) x = 0)) (fun i _ => c.length - (intOf i).toNat)
      case atStart => exact ⟨0, Nat.zero_le _, rfl, Below.refl _ _, hid (fun i x hi => by omega)⟩
      case round =>
        obtain ⟨k, hk, rfl, hbr, HK⟩ := hrel
        have HBr := hid hbr
        have d0 := keeps hbr c0
        have d1 := keeps hbr c1
        have d2 := keeps hbr c2
        have HOr := hid (HOp.out.below hbr HG.out)
        have C0 := hid (And.intro c0 (And.intro c1 c2))
        clear c0 c1 c2 hbr
        rename World => wm
        by_cases hlt : k < c.length
        · obtain ⟨x, hx⟩ := some_of_lt hlt
          have HX := hid hx
          obtain ⟨b, off, rfl, x0, x1, x2⟩ := Sl.ins ((HC.out.below HB2.out).below HBr.out) hx
          clear hx
          by_cases hop : 1 ≤ x.op ∧ x.op ≤ 5
          · obtain ⟨hp1, hp5⟩ := hop
            have hu := usedN_range hp1 hp5
            have HX2 := hid (HX.out)
            obtain ⟨op, a, bb⟩ := x
            have q1 := HOr.out.num' hp1 hp5
            generalize hU : usedN op = U at *
            have HU := hid hU
            clear hU
            have hn1 : decide (op < 1) = false := by simpa using hp1
            have hn5 : decide (5 < op) = false := by simpa using hp5
            go_upto_region 11 with fail
            clear hn1 hn5
            go_wp2_with fail
            obtain ⟨wx, hwx⟩ : ∃ wx, (wm.alloc (.cells #[.int .i64 op, .int .i64 a, .int .i64 bb] 47)).alloc (.cells #[.int .i64 a, .int .i64 bb] 3) = wx := ⟨_, rfl⟩
            rw [hwx]
            have hbx : Below wm.heap.size wm wx := by rw [← hwx]; exact ((Below.refl _ _).alloc (Nat.le_refl _) _).alloc (by simp) _
            have y0 : wx.cell? ⟨wm.heap.size, 0, none⟩ = some (.int .i64 op) := by rw [← hwx]; simp
            have y3 : ∀ j : Nat, j < 2 → wx.cell? ⟨wm.heap.size + 1, j, none⟩ = some (.int .i64 (opdK ⟨op, a, bb⟩ j)) := fun j hj => by
              rw [← hwx]
              have : j = 0 ∨ j = 1 := by omega
              rcases this with rfl | rfl <;> simp [opdK]
            have HY3 := hid y3
            have HBx := hid (bel_step HBr.out hbx)
            have d0 := keeps hbx d0
            have q1 := keeps hbx q1
            have HD := hid (And.intro (keeps hbx d1) (keeps hbx d2))
            have hu0 := hu.1
            have hu2 := hu.2
            clear hwx hbx y3 d1 d2 x0 x1 x2 hu
            generalize wm.heap.size = gx at *
            go_loop [52] (fun i => ∃ j : Nat, j ≤ 2 ∧ i = .int .i64 j ∧ Hid (∀ q, q < j → opdB (opdK ⟨op, a, bb⟩ q) (n + k) (decide ((q : Int) < usedN op)) = true)) (fun i => 2 - (intOf i).toNat)
            case atStart => exact ⟨0, by omega, rfl, hid (fun q hq => by omega)⟩
            case round =>
              obtain ⟨j, hj, rfl, HJ⟩ := hrel
              by_cases hj2 : j < 2
              · have y1 := HY3.out j hj2
                have HBad := hid (fun hf => insErr_bad (n := n + k) (x := ⟨op, a, bb⟩) hp1 hp5 hj2 hf)
                have HGo := hid (fun (ht : opdB (opdK ⟨op, a, bb⟩ j) (n + k) (decide ((j : Int) < usedN op)) = true) => show ∀ q, q < j + 1 → opdB (opdK ⟨op, a, bb⟩ q) (n + k) (decide ((q : Int) < usedN op)) = true from fun q hq => by
                  by_cases e : q = j
                  · subst e; exact ht
                  · exact HJ.out q (by omega))
                rw [HU.out] at HBad HGo
                generalize hy : opdK ⟨op, a, bb⟩ j = y at *
                clear hy
                have hjU : (j : Int) < U ∨ ¬ (j : Int) < U := by omega
                rcases hjU with hjU | hjU
                · have e1 : decide ((j : Int) < U) = true := by simpa using hjU
                  rw [e1] at HBad HGo
                  by_cases hy0 : y < 0
                  · have e2 : opdB y (n + k) true = false := by simp [opdB]; omega
                    have HF := hid (HBad.out e2)
                    clear HBad HGo e2
                    go_wp2
                    go_ret
                    exact ⟨ret_int (by rw [HE.out, pcodeErr_here HK.out HX.out (by rw [HF.out]; decide), HF.out]; rfl), bel_step HB2.out HBx.out⟩
                  · by_cases hyn : n + k ≤ y
                    · have e2 : opdB y (n + k) true = false := by simp [opdB]; omega
                      have HF := hid (HBad.out e2)
                      clear HBad HGo e2
                      go_wp2
                      go_ret
                      exact ⟨ret_int (by rw [HE.out, pcodeErr_here HK.out HX.out (by rw [HF.out]; decide), HF.out]; rfl), bel_step HB2.out HBx.out⟩
                    · have e2 : opdB y (n + k) true = true := by simp [opdB]; omega
                      have HF := hid (HGo.out e2)
                      clear HBad HGo e2
                      go_wp2
                      go_round
                      case rel => exact ⟨j + 1, by omega, by go_num, by rw [HU.out]; exact HF⟩
                      case measure => simp [intOf]; omega
                · have e1 : decide ((j : Int) < U) = false := by simpa using hjU
                  rw [e1] at HBad HGo
                  by_cases hy0 : y = 0
                  · have e2 : opdB y (n + k) false = true := by simp [opdB]; omega
                    have HF := hid (HGo.out e2)
                    clear HBad HGo e2
                    subst hy0
                    go_wp2
                    go_round
                    case rel => exact ⟨j + 1, by omega, by go_num, by rw [HU.out]; exact HF⟩
                    case measure => simp [intOf]; omega
                  · have e2 : opdB y (n + k) false = false := by simp [opdB]; omega
                    have e3 : (y != 0) = true := by simpa using hy0
                    have HF := hid (HBad.out e2)
                    clear HBad HGo e2 hy0
                    go_wp2
                    go_ret
                    exact ⟨ret_int (by rw [HE.out, pcodeErr_here HK.out HX.out (by rw [HF.out]; decide), HF.out]; rfl), bel_step HB2.out HBx.out⟩
              · have HF := hid (insErr_good (n := n + k) (x := ⟨op, a, bb⟩) hp1 hp5 fun q hq => HJ.out q (by omega))
                go_wp2
                go_roundw
                case rel => exact ⟨k + 1, by omega, by go_num, HBx.out, hid (fun i x hi hx => by
                  by_cases e : i = k
                  · subst e
                    have h2 := HX.out
                    rw [hx] at h2
                    rw [Option.some.inj h2]
                    exact HF.out
                  · exact HK.out i x (by omega) hx)⟩
                case measure => simp [intOf]; omega
          · have HF := hid (insErr_none (n := n + k) hop)
            obtain ⟨op, a, bb⟩ := x
            have hop : op < 1 ∨ 5 < op := by simp only at hop; omega
            rcases hop with hop | hop
            · go_wp2
              go_ret
              exact ⟨ret_int (by rw [HE.out, pcodeErr_here HK.out HX.out (by rw [HF.out]; decide), HF.out]; rfl), bel_step HB2.out (bel_step HBr.out (bel_alloc _ _))⟩
            · have hop1 : ¬ op < 1 := by omega
              go_wp2
              go_ret
              exact ⟨ret_int (by rw [HE.out, pcodeErr_here HK.out HX.out (by rw [HF.out]; decide), HF.out]; rfl), bel_step HB2.out (bel_step HBr.out (bel_alloc _ _))⟩
        · have HP := hid (pcodeErr_all (n := n) (c := c) fun i x hi hx => HK.out i x (by omega) hx)
          have HE := hid (show progErr n c o = if o.any (offB (n + c.length)) then 2 else 0 by rw [HE.out, if_neg (by simp [HP.out])]; rfl)
          have HW := hid (fun X d0 d1 h => HOuts.out w.heap.size c.length cc ac n (.slice ao o.length co) o X h1a h1b h3 d0 d1 h)
          have HOl := hid ((HO.out.below HB2.out).below HBr.out)
          generalize hA : o.any (offB (n + c.length)) = A at *
          clear hA
          cases A
          · go_wp2_with (go_at_call 67; refine (HW.out _ d0 d1 HOl.out).mono ?_; rintro e w5 ⟨rfl, hD⟩)
            go_ret
            exact ⟨ret_int HE.out.symm, bel_step (bel_step HB2.out HBr.out) (hD.below _)⟩
          · go_wp2_with (go_at_call 67; refine (HW.out _ d0 d1 HOl.out).mono ?_; rintro e w5 ⟨rfl, hD⟩)
            go_ret
            exact ⟨ret_int HE.out.symm, bel_step (bel_step HB2.out HBr.out) (hD.below _)⟩
end Go.Proofs.YtcdfghogmdhfcaaGreatDoor
