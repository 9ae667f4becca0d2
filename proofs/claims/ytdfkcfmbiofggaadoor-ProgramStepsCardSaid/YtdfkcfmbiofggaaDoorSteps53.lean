/-
  groovelaw53.ProgramSteps: a step of the encoder's program is a step of the encoder.
  No condition beyond the rows lying in a slice.
-/
import Derived.Test.YtdfkcfmbiofggaaDoorEncMainF
import Derived.Test.YtdfkcfmbiofggaaDoorEncEnco
import Derived.Test.YtdfkcfmbiofggaaDoorAwake53
import Derived.Deep.QuietTactic
namespace Go.Proofs.YtdfkcfmbiofggaaDoor
open Go.RowKit Go.Deep
set_option linter.unusedVariables false

theorem box3P {w w0 : World} {a b c : Value} {T : TypeId} (h : w.alloc (.cells #[a, b, c] T) = w0) : Below w.heap.size w w0 ∧ w0.cell? ⟨w.heap.size, 0, none⟩ = some a ∧ w0.cell? ⟨w.heap.size, 1, none⟩ = some b ∧ w0.cell? ⟨w.heap.size, 2, none⟩ = some c := by
  subst h
  exact ⟨bel_alloc _ _, by simp, by simp, by simp⟩
set_option maxRecDepth 100000 in
set_option maxHeartbeats 8000000 in
theorem programSteps_any (q bl inp : Int) (v : Value) (rows : List (List Cl)) (A B : Int) (w : World) (hM : MC w v rows) (hA0 : IntKind.u8.min ≤ A) (hA1 : A ≤ IntKind.u8.max) (hB0 : IntKind.u8.min ≤ B) (hB1 : B ≤ IntKind.u8.max) :
    Calls Tryd.prog 3 #[.agg #[.int .i64 q, .int .i64 bl, .int .i64 inp, v], .int .u8 A, .int .u8 B] w fun e w' => e = .returned (.bool true) ∧ Below w.heap.size w w' := by
  have hA0 : 0 ≤ A := hA0
  have hA1 : A ≤ 255 := hA1
  have hB0 : 0 ≤ B := hB0
  have hB1 : B ≤ 255 := hB1
  obtain ⟨A, rfl⟩ : ∃ A' : Nat, A = A' := ⟨A.toNat, by omega⟩
  obtain ⟨B, rfl⟩ : ∃ B' : Nat, B = B' := ⟨B.toNat, by omega⟩
  have HM := hid hM
  have HGr := hid (fun X h => egreat_any q bl inp v rows X h)
  have HCk := hid (fun X h => rechk_any q bl inp v rows X h)
  have HAw := hid awake_any
  obtain ⟨ao, cap, rfl, hc1, hc2⟩ := hM.slice
  clear hM
  go_enter Tryd.func3, Tryd.ntmps3
  go_upto_region 1 with fail
  obtain ⟨w0, hw0⟩ : ∃ w0, w.alloc (.cells #[.int .i64 q, .int .i64 bl, .int .i64 inp, .slice ao rows.length cap] 24) = w0 := ⟨_, rfl⟩
  obtain ⟨hb0, c0, c1, c2, c3⟩ := boxedE hw0
  rw [hw0]
  have HB0 := hid hb0
  clear hw0 hb0
  cases hg : gEnc rows
  · rw [hg] at HGr
    have HG := hid hg
    clear hg
    by_cases hE : eErr q bl inp rows = 0
    · have hEv := eErr_zero hE
      obtain ⟨Q, rfl⟩ : ∃ Q : Nat, q = Q := ⟨q.toNat, by have := hEv.q1; omega⟩
      obtain ⟨L, rfl⟩ : ∃ L : Nat, bl = L := ⟨bl.toNat, by have := hEv.b1; omega⟩
      obtain ⟨I, rfl⟩ : ∃ I : Nat, inp = I := ⟨inp.toNat, by have := hEv.i1; omega⟩
      have hSm : SmallE Q L I rows := ⟨hEv, (gEnc_valid HG.out hEv).1, by have := (gEnc_valid HG.out hEv).2; omega⟩
      rw [hE] at HCk
      have hi1 : 1 ≤ I := by have := hEv.i1; omega
      have hi6 : I ≤ 6 := hSm.i6
      have hr1 := hEv.r1
      have hr6 := hSm.n6
      have HEn := hid (fun X h => encoder_any Q L I (.slice ao rows.length cap) rows X h hE hSm)
      have hwA : IntKind.i64.wrap (A : Int) = (A : Int) := IntWalk.i64_in _ (by omega)
      have hwB : IntKind.i64.wrap (B : Int) = (B : Int) := IntWalk.i64_in _ (by omega)
      have hn0 : ¬ rows.length = 0 := by omega
      have hI0 : ¬ I = 0 := by omega
      obtain ⟨s, hs⟩ : ∃ s : Nat, A % rows.length = s := ⟨_, rfl⟩
      obtain ⟨k, hk⟩ : ∃ k : Nat, B % I = k := ⟨_, rfl⟩
      have hsA : (A : Int).tmod (rows.length : Int) = (s : Int) := by rw [← hs]; rfl
      have hkB : (B : Int).tmod (I : Int) = (k : Int) := by rw [← hk]; rfl
      have hsn : s < rows.length := by rw [← hs]; exact Nat.mod_lt _ (by omega)
      have hkI : k < I := by rw [← hk]; exact Nat.mod_lt _ (by omega)
      obtain ⟨row, hrow⟩ := some_of_lt hsn
      have hrl : row.length = I := by have := hEv.len row (List.mem_of_getElem? hrow); omega
      obtain ⟨x, hx⟩ := some_of_lt (show k < row.length by omega)
      have HSt := hid (fun vc vo X h1 h2 h3 => pstep_ok Q L I s k (.slice ao rows.length cap) vc vo rows row x (encP Q L I rows).1.code (encP Q L I rows).2 X h1 h2 h3 hE hEv (by omega) (encP_prog hSm) (encP_len Q L I rows) hsn hkI hrow hx (encP_out hSm hsn hkI hrow hx))
      have HEc := hid (fun b X h1 h2 => encode_one Q L I s k b (.slice ao rows.length cap) rows row x X h1 hE hEv hsn hkI hrow hx h2)
      clear hE hEv hSm hrow hx hrl hs hk
      generalize encP Q L I rows = P at *
      generalize wid rows.length + wid I = NN at *
      generalize rows.length = n at *
      generalize P.1.code.length = PL at *
      generalize P.2.length = OL at *
      go_upto_region 3 with (first
        | (go_at_call 5; refine (HGr.out _ (HM.out.below HB0.out)).mono ?_; rintro e w1 ⟨rfl, hb1⟩; have c0 := keeps hb1 c0; have c1 := keeps hb1 c1; have c2 := keeps hb1 c2; have c3 := keeps hb1 c3; have HB1 := hid (bel_step HB0.out hb1); clear hb1)
        | (go_at_call 6; refine (HCk.out _ (HM.out.below HB1.out)).mono ?_; rintro e w2 ⟨rfl, hb2⟩; have c0 := keeps hb2 c0; have c1 := keeps hb2 c1; have c2 := keeps hb2 c2; have c3 := keeps hb2 c3; have HB2 := hid (bel_step HB1.out hb2); clear hb2))
      go_quiet (fail)
      have hbq : Below w2.heap.size w2 (w2.drewN nq) := below_drewN (Below.refl _ _) nq
      have c0 := keeps hbq c0
      have c1 := keeps hbq c1
      have c2 := keeps hbq c2
      have c3 := keeps hbq c3
      have HB3 := hid (bel_step HB2.out hbq)
      clear hbq HGr HCk hsA hkB hwA hwB hn0 hI0 HB2
      generalize w2.drewN nq = w3 at *
      go_upto_region 5 with (go_at_call 8; refine (HEn.out _ (HM.out.below HB3.out)).mono ?_; rintro e w4 ⟨vc, vo, rfl, hvc, hvo, hb4⟩; have HC4 := hid hvc; have HO4 := hid hvo; obtain ⟨ac, cc, rfl, _, _, _, _⟩ := hvc; obtain ⟨ao2, co, rfl, _, _, _, _⟩ := hvo; have c0 := keeps hb4 c0; have c1 := keeps hb4 c1; have c2 := keeps hb4 c2; have c3 := keeps hb4 c3; have HB4 := hid (bel_step HB3.out hb4); clear hb4)
      clear HEn
      obtain ⟨w5, hw5⟩ : ∃ w5, w4.alloc (.cells #[.int .i64 (NN : Int), .slice ac PL cc, .slice ao2 OL co] 32) = w5 := ⟨_, rfl⟩
      obtain ⟨hb5, d0, d1, d2⟩ := box3P hw5
      rw [hw5]
      have c0 := keeps hb5 c0
      have c1 := keeps hb5 c1
      have c2 := keeps hb5 c2
      have c3 := keeps hb5 c3
      have HC5 := hid (HC4.out.below hb5)
      have HO5 := hid (HO4.out.below hb5)
      have HB5 := hid (bel_step HB4.out hb5)
      clear hw5 hb5
      generalize w4.heap.size = bp at *
      go_upto_region 6 with (go_at_call 9; refine (HSt.out _ _ w5 (HM.out.below HB5.out) HC5.out HO5.out).mono ?_; rintro e w6 ⟨rfl, hb6⟩; have c0 := keeps hb6 c0; have c1 := keeps hb6 c1; have c2 := keeps hb6 c2; have c3 := keeps hb6 c3; have HB6 := hid (bel_step HB5.out hb6); clear hb6)
      clear d0 d1 d2 HSt
      go_upto_region 7 with (go_at_call 10; obtain ⟨X, hX⟩ : ∃ X, w6.alloc (.cells #[.int .i64 (k : Int)] 3) = X := ⟨_, rfl⟩; rw [hX]; have hbX : Below w6.heap.size w6 X := (by rw [← hX]; exact bel_alloc _ _); have hcX : X.cell? ⟨w6.heap.size, 0, none⟩ = some (.int .i64 (k : Int)) := (by rw [← hX]; simp); have HBX := hid (bel_step HB6.out hbX); refine (HEc.out w6.heap.size X (HM.out.below HBX.out) hcX).mono ?_; rintro e w7 ⟨rfl, hb7⟩; have HB7 := hid (bel_step HBX.out hb7); clear hX hbX hcX hb7)
      go_wp2_with (go_at_call 7; refine (HAw.out _).mono ?_; rintro e w8 ⟨rfl, hb8⟩)
      go_ret
      exact ⟨rfl, bel_step HB7.out hb8⟩
    · have hE2 : (eErr q bl inp rows != 0) = true := by simp [hE]
      clear hE
      generalize eErr q bl inp rows = E at *
      go_wp2_with (first
        | (go_at_call 5; refine (HGr.out _ (HM.out.below HB0.out)).mono ?_; rintro e w1 ⟨rfl, hb1⟩; have c0 := keeps hb1 c0; have c1 := keeps hb1 c1; have c2 := keeps hb1 c2; have c3 := keeps hb1 c3; have HB1 := hid (bel_step HB0.out hb1); clear hb1)
        | (go_at_call 6; refine (HCk.out _ (HM.out.below HB1.out)).mono ?_; rintro e w2 ⟨rfl, hb2⟩; have HB2 := hid (bel_step HB1.out hb2); clear hb2)
        | (go_at_call 7; refine (HAw.out _).mono ?_; rintro e w3 ⟨rfl, hb3⟩))
      go_ret
      exact ⟨rfl, bel_step HB2.out hb3⟩
  · rw [hg] at HGr
    clear hg
    go_wp2_with (first
      | (go_at_call 5; refine (HGr.out _ (HM.out.below HB0.out)).mono ?_; rintro e w1 ⟨rfl, hb1⟩; have c0 := keeps hb1 c0; have c1 := keeps hb1 c1; have c2 := keeps hb1 c2; have c3 := keeps hb1 c3; have HB1 := hid (bel_step HB0.out hb1); clear hb1)
      | (go_at_call 7; refine (HAw.out _).mono ?_; rintro e w3 ⟨rfl, hb3⟩))
    go_ret
    exact ⟨rfl, bel_step HB1.out hb3⟩
end Go.Proofs.YtdfkcfmbiofggaaDoor
