/-
  The reference's used, operand and Check: why a program is not valid.
  No condition beyond the instructions and the outputs lying in slices.
-/
import Derived.Test.YtcdfghogmdhfcaaGreatDoorPrCheck
namespace Go.Proofs.YtcdfghogmdhfcaaGreatDoor
open Go.RowKit
set_option linter.unusedVariables false

set_option maxHeartbeats 400000 in
theorem used_any (op : Int) (w : World) : Calls Tryz.prog 94 #[.int .i64 op] w fun e w' => e = .returned (.int .i64 (usedN op)) ∧ w = w' := by
  by_cases h1 : op = 1
  · subst h1
    go_enter Tryz.func94, Tryz.ntmps94
    go_wp2
    go_ret
    exact ⟨rfl, rfl⟩
  by_cases h2 : op = 2
  · subst h2
    go_enter Tryz.func94, Tryz.ntmps94
    go_wp2
    go_ret
    exact ⟨rfl, rfl⟩
  by_cases h5 : op = 5
  · subst h5
    go_enter Tryz.func94, Tryz.ntmps94
    go_wp2
    go_ret
    exact ⟨rfl, rfl⟩
  by_cases h3 : op = 3
  · subst h3
    go_enter Tryz.func94, Tryz.ntmps94
    go_wp2
    go_ret
    exact ⟨rfl, rfl⟩
  by_cases h4 : op = 4
  · subst h4
    go_enter Tryz.func94, Tryz.ntmps94
    go_wp2
    go_ret
    exact ⟨rfl, rfl⟩
  have e : usedN op = -1 := by unfold usedN; rw [if_neg (by omega), if_neg h5, if_neg (by omega)]
  rw [e]
  have e1 : (op == 1) = false := by simpa using h1
  have e2 : (op == 2) = false := by simpa using h2
  have e3 : (op == 3) = false := by simpa using h3
  have e4 : (op == 4) = false := by simpa using h4
  have e5 : (op == 5) = false := by simpa using h5
  go_enter Tryz.func94, Tryz.ntmps94
  go_wp2
  go_ret
  exact ⟨rfl, rfl⟩

set_option maxHeartbeats 1000000 in
theorem operand_any (x n : Int) (is : Bool) (w : World) : Calls Tryz.prog 95 #[.int .i64 x, .int .i64 n, .bool is] w fun e w' => e = .returned (.bool (opdB x n is)) ∧ w = w' := by
  cases is with
  | true =>
    by_cases h0 : 0 ≤ x
    · by_cases h1 : x < n
      · have e : opdB x n true = true := by simp [opdB, h0, h1]
        rw [e]
        go_enter Tryz.func95, Tryz.ntmps95
        go_wp2
        go_ret
        exact ⟨rfl, rfl⟩
      · have e : opdB x n true = false := by simp [opdB, h0, h1]
        rw [e]
        go_enter Tryz.func95, Tryz.ntmps95
        go_wp2
        go_ret
        exact ⟨rfl, rfl⟩
    · have e : opdB x n true = false := by simp [opdB, h0]
      rw [e]
      go_enter Tryz.func95, Tryz.ntmps95
      go_wp2
      go_ret
      exact ⟨rfl, rfl⟩
  | false =>
    by_cases h0 : x = 0
    · subst h0
      go_enter Tryz.func95, Tryz.ntmps95
      go_wp2
      go_ret
      exact ⟨rfl, rfl⟩
    · have e : opdB x n false = false := by simp [opdB, h0]
      have e1 : (x == 0) = false := by simpa using h0
      rw [e]
      go_enter Tryz.func95, Tryz.ntmps95
      go_wp2
      go_ret
      exact ⟨rfl, rfl⟩

theorem anyOff_take {n : Int} {o : List Int} {k : Nat} {x : Int} (hx : o[k]? = some x) (h : (o.take k).any (offB n) = false) : (o.take (k + 1)).any (offB n) = offB n x := by
  rw [take_snoc hx, List.any_append, h]; simp
theorem anyOff_hit {n : Int} {o : List Int} {x : Int} (hx : x ∈ o) (h : offB n x = true) : o.any (offB n) = true := List.any_eq_true.2 ⟨x, hx, h⟩

set_option maxRecDepth 100000 in
set_option maxHeartbeats 4000000 in
theorem rcheck53_any (n : Int) (vc vo : Value) (c : List Ins) (o : List Int) (w : World) (hc : Sl 3 w vc c.length (icells c)) (ho : Sl 1 w vo o.length (ints o)) :
    Calls Tryz.prog 64 #[.agg #[.int .i64 n, vc, vo]] w fun e w' => e = .returned (.int .i64 (progErr n c o)) ∧ Below w.heap.size w w' := by
  have HC := hid hc
  have HO := hid ho
  have HUs := hid used_any
  have HOp := hid operand_any
  obtain ⟨ac, cc, rfl, _, hc1, hc2, hc3⟩ := hc
  obtain ⟨ao, co, rfl, _, ho1, ho2, ho3⟩ := ho
  clear hc3 ho3
  by_cases h1 : n < 0 ∨ 24 < n
  · have e : progErr n c o = 2 := by rw [progErr, if_pos h1]
    rw [e]
    rcases h1 with h1 | h1
    · go_enter Tryz.func64, Tryz.ntmps64
      go_wp2
      go_ret
      exact ⟨rfl, bel_alloc _ _⟩
    · have h0 : ¬ n < 0 := by omega
      go_enter Tryz.func64, Tryz.ntmps64
      go_wp2
      go_ret
      exact ⟨rfl, bel_alloc _ _⟩
  · have h1a : 0 ≤ n := by omega
    have h1b : n ≤ 24 := by omega
    by_cases h2 : 65536 < c.length ∨ 65536 < o.length
    · have e : progErr n c o = 4 := by rw [progErr, if_neg h1, if_pos h2]
      rw [e]
      clear h1
      by_cases h3 : 65536 < c.length
      · go_enter Tryz.func64, Tryz.ntmps64
        go_wp2
        go_ret
        exact ⟨rfl, bel_alloc _ _⟩
      · have h4 : 65536 < o.length := by omega
        clear h2
        go_enter Tryz.func64, Tryz.ntmps64
        go_wp2
        go_ret
        exact ⟨rfl, bel_alloc _ _⟩
    · have HE := hid (show progErr n c o = if pcodeErr n c ≠ 0 then pcodeErr n c else poutErr (n + c.length) o by rw [progErr, if_neg h1, if_neg h2])
      have h3 : c.length ≤ 65536 := by omega
      have h4 : o.length ≤ 65536 := by omega
      clear h1 h2
      go_enter Tryz.func64, Tryz.ntmps64
      go_upto_region 1 with fail
      obtain ⟨w0, hw0⟩ : ∃ w0, w.alloc (.cells #[.int .i64 n, .slice ac c.length cc, .slice ao o.length co] 28) = w0 := ⟨_, rfl⟩
      obtain ⟨hb0, c0, c1, c2⟩ := boxP hw0
      rw [hw0]
      have HB0 := hid hb0
      clear hw0 hb0
      go_wp2_with fail
      go_loopw [3] (fun i wr => ∃ k : Nat, k ≤ c.length ∧ i = .int .i64 k ∧ Dr w0 wr ∧ Hid (∀ (i : Nat) x, i < k → c[i]? = some x → insErr (n + i) x = 0)) (fun i _ => c.length - (intOf i).toNat)
      case atStart => exact ⟨0, Nat.zero_le _, rfl, Dr.refl _, hid (fun i x hi => by omega)⟩
      case round =>
        obtain ⟨k, hk, rfl, hD, HK⟩ := hrel
        have HD := hid hD
        have d0 := keeps (hD.below _) c0
        have d1 := keeps (hD.below _) c1
        have d2 := keeps (hD.below _) c2
        have C0 := hid (And.intro c0 (And.intro c1 c2))
        clear c0 c1 c2 hD
        rename World => wm
        by_cases hlt : k < c.length
        · obtain ⟨x, hx⟩ := some_of_lt hlt
          have HX := hid hx
          obtain ⟨b, off, rfl, x0, x1, x2⟩ := Sl.ins ((HC.out.below HB0.out).below (HD.out.below _)) hx
          clear hx
          obtain ⟨op, a, bb⟩ := x
          have HU := hid (fun X => HUs.out op X)
          have HI := hid (show insErr (n + k) ⟨op, a, bb⟩ = if usedN op < 0 then 8 else if opdB a (n + k) (decide (0 < usedN op)) && opdB bb (n + k) (decide (1 < usedN op)) then 0 else 2 from rfl)
          generalize usedN op = U at *
          by_cases hU : U < 0
          · have HF := hid (show insErr (n + k) ⟨op, a, bb⟩ = 8 by rw [HI.out, if_pos hU])
            go_wp2_with (go_at_call 94; refine (HU.out _).mono ?_; rintro e w2 ⟨rfl, rfl⟩)
            go_ret
            exact ⟨ret_int (by rw [HE.out, pcodeErr_here HK.out HX.out (by rw [HF.out]; decide), HF.out]; rfl), bel_step HB0.out (HD.out.below _)⟩
          · have HI := hid (show insErr (n + k) ⟨op, a, bb⟩ = if opdB a (n + k) (decide (0 < U)) && opdB bb (n + k) (decide (1 < U)) then 0 else 2 by rw [HI.out, if_neg hU])
            have hw1 : IntKind.i64.wrap (n + (k : Int)) = n + (k : Int) := IntWalk.i64_in _ (by omega)
            have hk0 : (0 : Int) ≤ (k : Int) := by omega
            have hk1 : (k : Int) < (c.length : Int) := by omega
            cases hA : opdB a (n + k) (decide (0 < U)) with
            | false =>
              have HF := hid (show insErr (n + k) ⟨op, a, bb⟩ = 2 by rw [HI.out, hA]; rfl)
              go_upto_region 11 with (go_at_call 94; refine (HU.out _).mono ?_; rintro e w2 ⟨rfl, rfl⟩)
              go_quiet ((go_at_call 95; exact quietS (HOp.out _ _ _ _)))
              clear hA hw1
              go_wp2
              go_ret
              exact ⟨ret_int (by rw [HE.out, pcodeErr_here HK.out HX.out (by rw [HF.out]; decide), HF.out]; rfl), bel_step HB0.out ((HD.out.drewN _).below _)⟩
            | true =>
              cases hB : opdB bb (n + k) (decide (1 < U)) with
              | false =>
                have HF := hid (show insErr (n + k) ⟨op, a, bb⟩ = 2 by rw [HI.out, hA, hB]; rfl)
                go_upto_region 11 with (go_at_call 94; refine (HU.out _).mono ?_; rintro e w2 ⟨rfl, rfl⟩)
                go_quiet ((go_at_call 95; exact quietS (HOp.out _ _ _ _)))
                clear hA hB hw1
                go_wp2
                go_ret
                exact ⟨ret_int (by rw [HE.out, pcodeErr_here HK.out HX.out (by rw [HF.out]; decide), HF.out]; rfl), bel_step HB0.out ((HD.out.drewN _).below _)⟩
              | true =>
                have HF := hid (show insErr (n + k) ⟨op, a, bb⟩ = 0 by rw [HI.out, hA, hB]; rfl)
                go_upto_region 11 with (go_at_call 94; refine (HU.out _).mono ?_; rintro e w2 ⟨rfl, rfl⟩)
                go_quiet ((go_at_call 95; exact quietS (HOp.out _ _ _ _)))
                clear hw1 hk0 hk1 hA hB
                go_wp2
                go_roundw
                case rel => exact ⟨k + 1, by omega, by go_num, HD.out.drewN _, hid (fun i x hi hx => by
                  by_cases e : i = k
                  · subst e
                    have h2 := HX.out
                    rw [hx] at h2
                    rw [Option.some.inj h2]
                    exact HF.out
                  · exact HK.out i x (by omega) hx)⟩
                case measure => simp [intOf]; omega
        · have HP := hid (pcodeErr_all (n := n) (c := c) fun i x hi hx => HK.out i x (by omega) hx)
          have HE := hid (show progErr n c o = if o.any (offB (n + c.length)) then 2 else 0 by rw [HE.out, if_neg (by simp [HP.out])]; rfl)
          have HBm := hid (bel_step HB0.out (HD.out.below _))
          have HOm := hid (HO.out.below HBm.out)
          clear C0
          go_wp2_with fail
          go_loopw [5] (fun i wr => ∃ j : Nat, j ≤ o.length ∧ i = .int .i64 j ∧ Dr wm wr ∧ Hid ((o.take j).any (offB (n + c.length)) = false)) (fun i _ => o.length - (intOf i).toNat)
          case atStart => exact ⟨0, Nat.zero_le _, rfl, Dr.refl _, hid rfl⟩
          case round =>
            obtain ⟨j, hj, rfl, hDj, HJ⟩ := hrel
            have HDj := hid hDj
            have d0 := keeps (hDj.below _) d0
            have d1 := keeps (hDj.below _) d1
            have d2 := keeps (hDj.below _) d2
            clear hDj
            rename World => wk
            by_cases hlt2 : j < o.length
            · obtain ⟨x, hx⟩ := some_of_lt hlt2
              obtain ⟨b', o', rfl, e1⟩ := (HOm.out.below (HDj.out.below _)).cell (ints_get hx)
              have HX := hid hx
              clear hx
              have hw1 : IntKind.i64.wrap (n + (c.length : Int)) = n + (c.length : Int) := IntWalk.i64_in _ (by omega)
              have hk0 : (0 : Int) ≤ (j : Int) := by omega
              have hk1 : (j : Int) < (o.length : Int) := by omega
              by_cases hx0 : x < 0
              · have HF := hid (anyOff_hit (n := n + c.length) (List.mem_of_getElem? HX.out) (by simp [offB, hx0]))
                go_upto_region 16 with fail
                go_quiet (fail)
                go_wp2
                go_ret
                exact ⟨ret_int (by rw [HE.out, HF.out]; rfl), bel_step HBm.out ((HDj.out.drewN _).below _)⟩
              · by_cases hxn : n + c.length ≤ x
                · have HF := hid (anyOff_hit (n := n + c.length) (List.mem_of_getElem? HX.out) (by simp [offB, hxn]))
                  go_upto_region 16 with fail
                  go_quiet (fail)
                  go_wp2
                  go_ret
                  exact ⟨ret_int (by rw [HE.out, HF.out]; rfl), bel_step HBm.out ((HDj.out.drewN _).below _)⟩
                · have HF := hid (show (o.take (j + 1)).any (offB (n + c.length)) = false by rw [anyOff_take HX.out HJ.out]; simp [offB]; omega)
                  go_upto_region 16 with fail
                  go_quiet (fail)
                  clear hw1 hk0 hk1
                  go_wp2
                  go_roundw
                  case rel => exact ⟨j + 1, by omega, by go_num, HDj.out.drewN _, HF⟩
                  case measure => simp [intOf]; omega
            · have HF := hid (show o.any (offB (n + c.length)) = false by have := HJ.out; rwa [take_all (by omega)] at this)
              go_wp2
              go_ret
              exact ⟨ret_int (by rw [HE.out, HF.out]; rfl), bel_step HBm.out (HDj.out.below _)⟩
end Go.Proofs.YtcdfghogmdhfcaaGreatDoor
