/-
  The law ProgramChecks: the walk of its function.
  No condition beyond the code and the outputs lying in slices, and the string's length.
-/
import Derived.Test.YtgfeknjhkciooaaDoorAwake53
import Derived.Test.YtgfeknjhkciooaaDoorPrGreat
import Derived.Test.YtgfeknjhkciooaaDoorPrRefRun
import Derived.Test.YtgfeknjhkciooaaDoorRfReduce
namespace Go.Proofs.YtgfeknjhkciooaaDoor
open Go.RowKit Go.Deep
set_option linter.unusedVariables false

set_option maxRecDepth 100000 in
set_option maxHeartbeats 4000000 in
theorem programChecks_any (n : Int) (vc vo : Value) (c : List Ins) (o : List Int) (s : ByteArray) (w : World) (hc : Sl 3 w vc c.length (icells c)) (ho : Sl 1 w vo o.length (ints o)) (hs : s.size ≤ maxLen) :
    Calls Tryd.prog 3 #[.agg #[.int .i64 n, vc, vo], .string s] w fun e w' => e = .returned (.bool true) ∧ Below w.heap.size w w' := by
  have HC := hid hc
  have HO := hid ho
  have HGr := hid (fun X h1 h2 => pgreat_any n vc vo c o X h1 h2)
  obtain ⟨ac, cc, rfl, _, hc1, hc2, hc3⟩ := hc
  obtain ⟨ao, co, rfl, _, ho1, ho2, ho3⟩ := ho
  clear hc3 ho3
  have hs63 : s.size ≤ 9223372036854775807 := by unfold maxLen at hs; omega
  clear hs
  cases hG : greatB c o
  · rw [hG] at HGr
    clear hG
    by_cases hs6 : (60 : Int) < (s.size : Int)
    · go_enter Tryd.func3, Tryd.ntmps3
      go_upto_region 1 with fail
      obtain ⟨w0, hw0⟩ : ∃ w0, w.alloc (.cells #[.int .i64 n, .slice ac c.length cc, .slice ao o.length co] 25) = w0 := ⟨_, rfl⟩
      obtain ⟨hb0, c0, c1, c2⟩ := boxP hw0
      rw [hw0]
      have HB0 := hid hb0
      clear hw0 hb0
      go_wp2_with (first
        | (go_at_call 10; refine (HGr.out _ (HC.out.below HB0.out) (HO.out.below HB0.out)).mono ?_; rintro e w1 ⟨rfl, hb1⟩)
        | (go_at_call 11; refine (awake_any _).mono ?_; rintro e w2 ⟨rfl, hb2⟩))
      go_ret
      exact ⟨rfl, bel_step (bel_step HB0.out hb1) hb2⟩
    · have HR1 := hid (fun X h1 h2 => prunTop_any n (.slice ac c.length cc) (.slice ao o.length co) c o s X h1 h2 hs63)
      have HR2 := hid (fun X h1 h2 => rrun53_any n (.slice ac c.length cc) (.slice ao o.length co) c o s X h1 h2 hs63)
      have HD1 := hid (fun X h1 h2 => preduce_any n (.slice ac c.length cc) (.slice ao o.length co) c o X h1 h2)
      have HD2 := hid (fun X h1 h2 => rreduce_any n (.slice ac c.length cc) (.slice ao o.length co) c o X h1 h2)
      have HK1 := hid (fun X h1 h2 => pcheck_any n (.slice ac c.length cc) (.slice ao o.length co) c o X h1 h2)
      have HK2 := hid (fun X h1 h2 => rcheck53_any n (.slice ac c.length cc) (.slice ao o.length co) c o X h1 h2)
      unfold RPost at HD1 HD2
      generalize runErr n c o s = RER at *
      generalize runStr n c o s = RSR at *
      generalize redI n c o = RI at *
      generalize redE n c o = REE at *
      generalize redN n c o = C at *
      generalize redP n c o = O at *
      generalize progErr n c o = PE at *
      have HSm := hid (fun v1 v2 v3 v4 X h1 h2 h3 h4 => psame_any RI v1 v2 v3 v4 C O X h1 h2 h3 h4)
      have hs60 : ¬ 60 < s.size := by omega
      clear hs63
      go_enter Tryd.func3, Tryd.ntmps3
      go_upto_region 1 with fail
      obtain ⟨w0, hw0⟩ : ∃ w0, w.alloc (.cells #[.int .i64 n, .slice ac c.length cc, .slice ao o.length co] 25) = w0 := ⟨_, rfl⟩
      obtain ⟨hb0, c0, c1, c2⟩ := boxP hw0
      rw [hw0]
      have HB0 := hid hb0
      clear hw0 hb0
      go_upto_region 5 with (first
        | (go_at_call 10; refine (HGr.out _ (HC.out.below HB0.out) (HO.out.below HB0.out)).mono ?_; rintro e w1 ⟨rfl, hb1⟩; have c0 := keeps hb1 c0; have c1 := keeps hb1 c1; have c2 := keeps hb1 c2; have HB1 := hid (bel_step HB0.out hb1); clear hb1)
        | (go_at_call 12; refine (HR1.out _ (HC.out.below HB1.out) (HO.out.below HB1.out)).mono ?_; rintro e w2 ⟨rfl, hb2⟩; have c0 := keeps hb2 c0; have c1 := keeps hb2 c1; have c2 := keeps hb2 c2; have HB2 := hid (bel_step HB1.out hb2); clear hb2)
        | (go_at_call 13; refine (HR2.out _ (HC.out.below HB2.out) (HO.out.below HB2.out)).mono ?_; rintro e w3 ⟨rfl, hb3⟩; have c0 := keeps hb3 c0; have c1 := keeps hb3 c1; have c2 := keeps hb3 c2; have HB3 := hid (bel_step HB2.out hb3); clear hb3))
      go_upto_region 6 with (go_at_call 14; refine (HD1.out _ (HC.out.below HB3.out) (HO.out.below HB3.out)).mono ?_; rintro e w4 ⟨v1, v2, rfl, how1, how2, hb4⟩; obtain ⟨a1, p1, rfl⟩ := own_slice how1; obtain ⟨a2, p2, rfl⟩ := own_slice how2; have c0 := keeps hb4 c0; have c1 := keeps hb4 c1; have c2 := keeps hb4 c2)
      obtain ⟨w5, hw5⟩ : ∃ w5, w4.alloc (.cells #[.int .i64 RI, .slice a1 C.length p1, .slice a2 O.length p2] 25) = w5 := ⟨_, rfl⟩
      obtain ⟨hb5, d0, d1, d2⟩ := boxP hw5
      rw [hw5]
      have HQ := hid (And.intro (Sl.of_owns (own_below how1 hb5)) (Sl.of_owns (own_below how2 hb5)))
      have HB5 := hid (bel_step (bel_step HB3.out hb4) hb5)
      have c0 := keeps hb5 c0
      have c1 := keeps hb5 c1
      have c2 := keeps hb5 c2
      clear hw5 hb4 hb5 how1 how2 HB0 HB1 HB2 HB3 HD1 HGr HR1 HR2
      generalize w4.heap.size = g9 at *
      go_upto_region 7 with (go_at_call 15; refine (HD2.out _ (HC.out.below HB5.out) (HO.out.below HB5.out)).mono ?_; rintro e w6 ⟨v1, v2, rfl, how1, how2, hb6⟩; obtain ⟨a3, p3, rfl⟩ := own_slice how1; obtain ⟨a4, p4, rfl⟩ := own_slice how2; have c0 := keeps hb6 c0; have c1 := keeps hb6 c1; have c2 := keeps hb6 c2; have d0 := keeps hb6 d0; have d1 := keeps hb6 d1; have d2 := keeps hb6 d2)
      obtain ⟨w7, hw7⟩ : ∃ w7, w6.alloc (.cells #[.int .i64 RI, .slice a3 C.length p3, .slice a4 O.length p4] 25) = w7 := ⟨_, rfl⟩
      obtain ⟨hb7, k0, k1, k2⟩ := boxP hw7
      rw [hw7]
      have HQ2 := hid (And.intro (Sl.of_owns (own_below how1 hb7)) (Sl.of_owns (own_below how2 hb7)))
      have HB57 := hid (bel_step hb6 hb7)
      have HB7 := hid (HB5.out.trans (HB57.out.mono HB5.out.size))
      have c0 := keeps hb7 c0
      have c1 := keeps hb7 c1
      have c2 := keeps hb7 c2
      have d0 := keeps hb7 d0
      have d1 := keeps hb7 d1
      have d2 := keeps hb7 d2
      have HQ1 := hid (And.intro (HQ.out.1.below HB57.out) (HQ.out.2.below HB57.out))
      clear hw7 hb6 hb7 how1 how2 HB5 HB57 HQ HD2
      generalize w6.heap.size = g11 at *
      have hrf : (PE == PE) = true := by simp
      go_region_held3 (fun w' => w'.cell? ⟨w.heap.size, 0, none⟩ = some (.int .i64 n) ∧ w'.cell? ⟨w.heap.size, 1, none⟩ = some (.slice ac c.length cc) ∧ w'.cell? ⟨w.heap.size, 2, none⟩ = some (.slice ao o.length co) ∧ w'.cell? ⟨g9, 0, none⟩ = some (.int .i64 RI) ∧ w'.cell? ⟨g9, 1, none⟩ = some (.slice a1 C.length p1) ∧ w'.cell? ⟨g9, 2, none⟩ = some (.slice a2 O.length p2) ∧ w'.cell? ⟨g11, 0, none⟩ = some (.int .i64 RI) ∧ w'.cell? ⟨g11, 1, none⟩ = some (.slice a3 C.length p3) ∧ w'.cell? ⟨g11, 2, none⟩ = some (.slice a4 O.length p4))
        (first | exact ⟨c0, c1, c2, d0, d1, d2, k0, k1, k2⟩ | go_keep)
        (first
          | (go_at_call 16; refine (HK1.out _ (HC.out.below HB7.out.drew) (HO.out.below HB7.out.drew)).mono ?_; rintro e w8 ⟨rfl, hb8⟩; have c0 := keeps hb8 c0; have c1 := keeps hb8 c1; have c2 := keeps hb8 c2; have d0 := keeps hb8 d0; have d1 := keeps hb8 d1; have d2 := keeps hb8 d2; have k0 := keeps hb8 k0; have k1 := keeps hb8 k1; have k2 := keeps hb8 k2; have HB78 := hid (show Below w7.heap.size w7 w8 from (below_drewN (Below.refl _ _) 1).trans hb8); clear hb8)
          | (go_at_call 17; refine (HK2.out _ (HC.out.below (HB7.out.trans (HB78.out.mono HB7.out.size))) (HO.out.below (HB7.out.trans (HB78.out.mono HB7.out.size)))).mono ?_; rintro e w9 ⟨rfl, hb9⟩; have c0 := keeps hb9 c0; have c1 := keeps hb9 c1; have c2 := keeps hb9 c2; have d0 := keeps hb9 d0; have d1 := keeps hb9 d1; have d2 := keeps hb9 d2; have k0 := keeps hb9 k0; have k1 := keeps hb9 k1; have k2 := keeps hb9 k2; have HB79 := hid (bel_step HB78.out hb9); clear hb9)
          | (go_at_call 18; refine (HSm.out _ _ _ _ _ (HQ1.out.1.below HB79.out) (HQ1.out.2.below HB79.out) (HQ2.out.1.below HB79.out) (HQ2.out.2.below HB79.out)).mono ?_; rintro e wa ⟨rfl, hba⟩; have c0 := keeps hba c0; have c1 := keeps hba c1; have c2 := keeps hba c2; have d0 := keeps hba d0; have d1 := keeps hba d1; have d2 := keeps hba d2; have k0 := keeps hba k0; have k1 := keeps hba k1; have k2 := keeps hba k2; have HB7a := hid (bel_step HB79.out hba); clear hba)
          | (go_at_call 11; refine (awake_any _).mono ?_; rintro e wb ⟨rfl, hbb⟩; have c0 := keeps hbb c0; have c1 := keeps hbb c1; have c2 := keeps hbb c2; have d0 := keeps hbb d0; have d1 := keeps hbb d1; have d2 := keeps hbb d2; have k0 := keeps hbb k0; have k1 := keeps hbb k1; have k2 := keeps hbb k2; have HB7b := hid (bel_step HB7a.out hbb); clear hbb))
      all_goals
        go_wp2_with fail
        go_ret
        exact ⟨rfl, HB7.out.trans (HB7b.out.mono HB7.out.size)⟩
  · rw [hG] at HGr
    clear hG
    go_enter Tryd.func3, Tryd.ntmps3
    go_upto_region 1 with fail
    obtain ⟨w0, hw0⟩ : ∃ w0, w.alloc (.cells #[.int .i64 n, .slice ac c.length cc, .slice ao o.length co] 25) = w0 := ⟨_, rfl⟩
    obtain ⟨hb0, c0, c1, c2⟩ := boxP hw0
    rw [hw0]
    have HB0 := hid hb0
    clear hw0 hb0
    go_wp2_with (first
      | (go_at_call 10; refine (HGr.out _ (HC.out.below HB0.out) (HO.out.below HB0.out)).mono ?_; rintro e w1 ⟨rfl, hb1⟩)
      | (go_at_call 11; refine (awake_any _).mono ?_; rintro e w2 ⟨rfl, hb2⟩))
    go_ret
    exact ⟨rfl, bel_step (bel_step HB0.out hb1) hb2⟩
end Go.Proofs.YtgfeknjhkciooaaDoor
