/-
  The law ProgramReduces: the walk of its function.
  No condition beyond the code and the outputs lying in slices.
-/
import Derived.Test.YtgfeknjhkciooaaDoorAwake53
import Derived.Test.YtgfeknjhkciooaaDoorPrGreat
import Derived.Test.YtgfeknjhkciooaaDoorInputs
namespace Go.Proofs.YtgfeknjhkciooaaDoor
open Go.RowKit Go.Deep
set_option linter.unusedVariables false

theorem fineB_true {n : Int} {c : List Ins} {o : List Int} (h : fineB n c o = true) : progErr n c o = 0 ∧ c.length ≤ 30 ∧ o.length ≤ 30 := by
  unfold fineB greatB at h
  simp at h
  omega
set_option maxRecDepth 100000 in
set_option maxHeartbeats 4000000 in
theorem programReduces_any (n : Int) (vc vo : Value) (c : List Ins) (o : List Int) (a : Int) (w : World) (hc : Sl 3 w vc c.length (icells c)) (ho : Sl 1 w vo o.length (ints o)) (ha0 : 0 ≤ a) (ha1 : a ≤ 4294967295) :
    Calls Tryd.prog 4 #[.agg #[.int .i64 n, vc, vo], .int .u32 a] w fun e w' => e = .returned (.bool true) ∧ Below w.heap.size w w' := by
  have HC := hid hc
  have HO := hid ho
  have HFi := hid (fun X h1 h2 => fine_any n vc vo c o X h1 h2)
  obtain ⟨ac, cc, rfl, _, hc1, hc2, hc3⟩ := hc
  obtain ⟨ao, co, rfl, _, ho1, ho2, ho3⟩ := ho
  clear hc3 ho3
  cases hF : fineB n c o
  · rw [hF] at HFi
    clear hF
    go_enter Tryd.func4, Tryd.ntmps4
    go_upto_region 1 with fail
    obtain ⟨w0, hw0⟩ : ∃ w0, w.alloc (.cells #[.int .i64 n, .slice ac c.length cc, .slice ao o.length co] 25) = w0 := ⟨_, rfl⟩
    obtain ⟨hb0, c0, c1, c2⟩ := boxP hw0
    rw [hw0]
    have HB0 := hid hb0
    clear hw0 hb0
    go_wp2_with (first
      | (go_at_call 19; refine (HFi.out _ (HC.out.below HB0.out) (HO.out.below HB0.out)).mono ?_; rintro e w1 ⟨rfl, hb1⟩)
      | (go_at_call 11; refine (awake_any _).mono ?_; rintro e w2 ⟨rfl, hb2⟩))
    go_ret
    exact ⟨rfl, bel_step (bel_step HB0.out hb1) hb2⟩
  · rw [hF] at HFi
    obtain ⟨hE, hcl, hol⟩ := fineB_true hF
    clear hF
    obtain ⟨N, rfl, hN, _, _⟩ := progErr_parts hE
    have L := redLaw (l := inL a N) hE hcl hol (by rw [inL_len])
    clear hE
    obtain ⟨e1, i1, e2, i2, q2, o2, r1, r2, s2, k2, len⟩ := L
    have HRd := hid (fun X h1 h2 => preduce_any N (.slice ac c.length cc) (.slice ao o.length co) c o X h1 h2)
    have HRe := hid (fun vc' vo' X h1 h2 => preduce_any N vc' vo' (redN N c o) (redP N c o) X h1 h2)
    have HIn := hid (fun vc' vo' X => inputs_any N a vc' vo' X hN ha0 ha1)
    have hsz : (bitS (inL a N)).size ≤ 9223372036854775807 := by rw [bitS_size, inL_len]; omega
    have HR1 := hid (fun X h1 h2 => prunTop_any N (.slice ac c.length cc) (.slice ao o.length co) c o (bitS (inL a N)) X h1 h2 hsz)
    have HR2 := hid (fun vc' vo' X h1 h2 => prunTop_any N vc' vo' (redN N c o) (redP N c o) (bitS (inL a N)) X h1 h2 hsz)
    have HCk := hid (fun vc' vo' X h1 h2 => pcheck_any N vc' vo' (redN N c o) (redP N c o) X h1 h2)
    have HSm := hid (fun v1 v2 v3 v4 X h1 h2 h3 h4 => psame_any N v1 v2 v3 v4 (redN N c o) (redP N c o) X h1 h2 h3 h4)
    unfold RPost at HRd HRe
    rw [e1, i1] at HRd
    rw [e2, i2, q2, o2] at HRe
    rw [r1] at HR1
    rw [r2, s2] at HR2
    rw [k2] at HCk
    clear e1 i1 e2 i2 q2 o2 r1 r2 s2 k2 hsz
    generalize runStr N c o (bitS (inL a N)) = RS at *
    generalize bitS (inL a N) = BS at *
    generalize redN N c o = C at *
    generalize redP N c o = O at *
    have hmax : ∀ ats ty, Builtin.max_ ats ty #[.int .i64 0, .int .i64 0, .int .i64 0, .int .i64 0] = pure (.int .i64 0) := fun _ _ => rfl
    have hwr : IntKind.i64.wrap ((c.length : Int) + 2) = (c.length : Int) + 2 := IntWalk.i64_in _ (by omega)
    have hle : ((C.length : Int) ≤ (c.length : Int) + 2) := by omega
    go_enter Tryd.func4, Tryd.ntmps4
    go_upto_region 1 with fail
    obtain ⟨w0, hw0⟩ : ∃ w0, w.alloc (.cells #[.int .i64 N, .slice ac c.length cc, .slice ao o.length co] 25) = w0 := ⟨_, rfl⟩
    obtain ⟨hb0, c0, c1, c2⟩ := boxP hw0
    rw [hw0]
    have HB0 := hid hb0
    clear hw0 hb0
    go_upto_region 4 with (first
      | (go_at_call 19; refine (HFi.out _ (HC.out.below HB0.out) (HO.out.below HB0.out)).mono ?_; rintro e w1 ⟨rfl, hb1⟩; have c0 := keeps hb1 c0; have c1 := keeps hb1 c1; have c2 := keeps hb1 c2; have HB1 := hid (bel_step HB0.out hb1))
      | (go_at_call 14; refine (HRd.out _ (HC.out.below HB1.out) (HO.out.below HB1.out)).mono ?_; rintro e w2 ⟨v1, v2, rfl, how1, how2, hb2⟩; obtain ⟨a1, p1, rfl⟩ := own_slice how1; obtain ⟨a2, p2, rfl⟩ := own_slice how2; have c0 := keeps hb2 c0; have c1 := keeps hb2 c1; have c2 := keeps hb2 c2))
    obtain ⟨w3, hw3⟩ : ∃ w3, w2.alloc (.cells #[.int .i64 N, .slice a1 C.length p1, .slice a2 O.length p2] 25) = w3 := ⟨_, rfl⟩
    obtain ⟨hb3, d0, d1, d2⟩ := boxP hw3
    rw [hw3]
    have HQ := hid (And.intro (Sl.of_owns (own_below how1 hb3)) (Sl.of_owns (own_below how2 hb3)))
    have HB3 := hid (bel_step (bel_step HB1.out hb2) hb3)
    have c0 := keeps hb3 c0
    have c1 := keeps hb3 c1
    have c2 := keeps hb3 c2
    clear hw3 hb1 hb2 hb3 how1 how2 HFi HRd HB1 HB0
    generalize w2.heap.size = g5 at *
    go_upto_region 5 with (go_at_call 14; refine (HRe.out _ _ _ HQ.out.1 HQ.out.2).mono ?_; rintro e w4 ⟨v1, v2, rfl, how1, how2, hb4⟩; obtain ⟨a3, p3, rfl⟩ := own_slice how1; obtain ⟨a4, p4, rfl⟩ := own_slice how2; have c0 := keeps hb4 c0; have c1 := keeps hb4 c1; have c2 := keeps hb4 c2; have d0 := keeps hb4 d0; have d1 := keeps hb4 d1; have d2 := keeps hb4 d2)
    obtain ⟨w5, hw5⟩ : ∃ w5, w4.alloc (.cells #[.int .i64 N, .slice a3 C.length p3, .slice a4 O.length p4] 25) = w5 := ⟨_, rfl⟩
    obtain ⟨hb5, k0, k1, k2⟩ := boxP hw5
    rw [hw5]
    have HQ2 := hid (And.intro (Sl.of_owns (own_below how1 hb5)) (Sl.of_owns (own_below how2 hb5)))
    have HB35 := hid (bel_step hb4 hb5)
    have HB5 := hid (bel_step (bel_step HB3.out hb4) hb5)
    have c0 := keeps hb5 c0
    have c1 := keeps hb5 c1
    have c2 := keeps hb5 c2
    have d0 := keeps hb5 d0
    have d1 := keeps hb5 d1
    have d2 := keeps hb5 d2
    clear hw5 hb4 hb5 how1 how2 HRe
    generalize w4.heap.size = g7 at *
    go_upto_region 7 with (first
      | (go_at_call 20; refine (HIn.out _ _ _).mono ?_; rintro e w6 ⟨rfl, hb6⟩; have c0 := keeps hb6 c0; have c1 := keeps hb6 c1; have c2 := keeps hb6 c2; have d0 := keeps hb6 d0; have d1 := keeps hb6 d1; have d2 := keeps hb6 d2; have k0 := keeps hb6 k0; have k1 := keeps hb6 k1; have k2 := keeps hb6 k2; have HB56 := hid hb6; have HB6 := hid (bel_step HB5.out hb6); clear hb6)
      | (go_at_call 12; refine (HR1.out _ (HC.out.below HB6.out) (HO.out.below HB6.out)).mono ?_; rintro e w7 ⟨rfl, hb7⟩; have c0 := keeps hb7 c0; have c1 := keeps hb7 c1; have c2 := keeps hb7 c2; have d0 := keeps hb7 d0; have d1 := keeps hb7 d1; have d2 := keeps hb7 d2; have k0 := keeps hb7 k0; have k1 := keeps hb7 k1; have k2 := keeps hb7 k2; have HB57 := hid (bel_step HB56.out hb7); have HB7 := hid (bel_step HB6.out hb7); clear hb7))
    go_upto_region 8 with (first | (go_at_call 12; refine (HR2.out _ _ _ (HQ.out.1.below (HB35.out.trans (HB57.out.mono HB35.out.size))) (HQ.out.2.below (HB35.out.trans (HB57.out.mono HB35.out.size)))).mono ?_; rintro e w8 ⟨rfl, hb8⟩; have c0 := keeps hb8 c0; have c1 := keeps hb8 c1; have c2 := keeps hb8 c2; have d0 := keeps hb8 d0; have d1 := keeps hb8 d1; have d2 := keeps hb8 d2; have k0 := keeps hb8 k0; have k1 := keeps hb8 k1; have k2 := keeps hb8 k2; have HB58 := hid (bel_step HB57.out hb8); have HB8 := hid (bel_step HB7.out hb8); clear hb8))
    have HQ8 := hid (And.intro (HQ.out.1.below (HB35.out.trans (HB58.out.mono HB35.out.size))) (HQ.out.2.below (HB35.out.trans (HB58.out.mono HB35.out.size))))
    have HP8 := hid (And.intro (HQ2.out.1.below HB58.out) (HQ2.out.2.below HB58.out))
    clear HQ HQ2 HB35 HB5 HB6 HB7 HB56 HB57 HB58 HB3 HIn HR1 HR2 HC HO
    go_wp2_with (first
      | (go_at_call 16; refine (HCk.out _ _ _ HQ8.out.1 HQ8.out.2).mono ?_; rintro e w9 ⟨rfl, hb9⟩; have c1 := keeps hb9 c1; have d0 := keeps hb9 d0; have d1 := keeps hb9 d1; have d2 := keeps hb9 d2; have k0 := keeps hb9 k0; have k1 := keeps hb9 k1; have k2 := keeps hb9 k2; have HB89 := hid hb9; clear hb9)
      | (go_at_call 18; refine (HSm.out _ _ _ _ _ (HP8.out.1.below HB89.out) (HP8.out.2.below HB89.out) (HQ8.out.1.below HB89.out) (HQ8.out.2.below HB89.out)).mono ?_; rintro e w10 ⟨rfl, hb10⟩)
      | (go_at_call 11; refine (awake_any _).mono ?_; rintro e w11 ⟨rfl, hb11⟩))
    go_ret
    exact ⟨rfl, bel_step (bel_step (bel_step HB8.out HB89.out) hb10) hb11⟩
end Go.Proofs.YtgfeknjhkciooaaDoor
