/-
  groovelaw53.ProgramEncoders: Encoder, Table, Step and Agree return the results of the reference.
  No condition beyond the rows lying in slices.
-/
import Derived.Test.YtcdfghogmdhfcaaGreatDoorFitA
import Derived.Test.YtcdfghogmdhfcaaGreatDoorRfTab
import Derived.Test.YtcdfghogmdhfcaaGreatDoorEncSide
import Derived.Test.YtcdfghogmdhfcaaGreatDoorMg48
import Derived.Test.YtcdfghogmdhfcaaGreatDoorMg22
import Derived.Test.YtcdfghogmdhfcaaGreatDoorAwake53
namespace Go.Proofs.YtcdfghogmdhfcaaGreatDoor
open Go.RowKit Go.Deep
set_option linter.unusedVariables false
set_option linter.unusedSimpArgs false

/-- What both Encoders yield. -/
def EPost3 (X : World) (NN er : Int) (C : List Ins) (O : List Int) (e : Ending) (w' : World) : Prop :=
  ∃ ac cc ao co, e = .returned (.tuple #[.agg #[.int .i64 NN, .slice ac C.length cc, .slice ao O.length co], .int .i64 er]) ∧ Sl 3 w' (.slice ac C.length cc) C.length (icells C) ∧ Sl 1 w' (.slice ao O.length co) O.length (ints O) ∧ Below X.heap.size X w'
/-- What both sides yield of the encoder alone. -/
structure EncD (w : World) (q bl I : Int) (v : Value) (NN er te : Int) (C : List Ins) (O : List Int) (tx : ByteArray) : Prop where
  e1 : ∀ X, Below w.heap.size w X → Calls Tryz.prog 7 #[.agg #[.int .i64 q, .int .i64 bl, .int .i64 I, v]] X (EPost3 X NN er C O)
  e2 : ∀ X, Below w.heap.size w X → Calls Tryz.prog 8 #[.agg #[.int .i64 q, .int .i64 bl, .int .i64 I, v]] X (EPost3 X NN er C O)
  t1 : ∀ X, Below w.heap.size w X → Calls Tryz.prog 9 #[.agg #[.int .i64 q, .int .i64 bl, .int .i64 I, v]] X (fun e w' => e = .returned (.tuple #[.string tx, .int .i64 te]) ∧ Below X.heap.size X w')
  t2 : ∀ X, Below w.heap.size w X → Calls Tryz.prog 10 #[.agg #[.int .i64 q, .int .i64 bl, .int .i64 I, v]] X (fun e w' => e = .returned (.tuple #[.string tx, .int .i64 te]) ∧ Below X.heap.size X w')
theorem encD_any (q bl I : Int) (v : Value) (rows : List (List Cl)) (w : World) (hM : MC w v rows) (hg : gEnc rows = false) : ∃ NN er te C O tx, EncD w q bl I v NN er te C O tx := by
  by_cases hE : eErr q bl I rows = 0
  · have hV := eErr_zero hE
    obtain ⟨h6, hi6⟩ := gEnc_valid hg hV
    obtain ⟨q, rfl⟩ : ∃ k : Nat, q = (k : Int) := ⟨q.toNat, by have := hV.q1; omega⟩
    obtain ⟨bl, rfl⟩ : ∃ k : Nat, bl = (k : Int) := ⟨bl.toNat, by have := hV.b1; omega⟩
    obtain ⟨I, rfl⟩ : ∃ k : Nat, I = (k : Int) := ⟨I.toNat, by have := hV.i1; omega⟩
    have hS : SmallE q bl I rows := ⟨hV, h6, by omega⟩
    have hT : Small (q : Int) (bl : Int) (I : Int) rows := ⟨hV, h6, hi6⟩
    refine ⟨((wid rows.length + wid I : Nat) : Int), 0, 0, (encP q bl I rows).1.code, (encP q bl I rows).2, _, ⟨fun X hX => ?_, fun X hX => ?_, fun X hX => table_any _ _ I v rows X (hM.below hX) hE hT, fun X hX => rtable_any _ _ I v rows X (hM.below hX) hE hT⟩⟩
    · refine (encoder_any q bl I v rows X (hM.below hX) hE hS).mono fun e w' h => ?_
      obtain ⟨vc, vo, h1, h2, h3, h4⟩ := h
      obtain ⟨ac, cc, rfl, _⟩ := id h2
      obtain ⟨ao, co, rfl, _⟩ := id h3
      exact ⟨ac, cc, ao, co, h1, h2, h3, h4⟩
    · refine (rencoder_any q bl I v rows X (hM.below hX) hE hS).mono fun e w' h => ?_
      obtain ⟨vc, vo, h1, h2, h3, h4⟩ := h
      obtain ⟨ac, cc, rfl, _⟩ := id h2
      obtain ⟨ao, co, rfl, _⟩ := id h3
      exact ⟨ac, cc, ao, co, h1, h2, h3, h4⟩
  · refine ⟨0, 1, 1, [], [], ⟨#[]⟩, ⟨fun X hX => ?_, fun X hX => ?_, fun X hX => table_bad q bl I v rows X (hM.below hX) hE, fun X hX => rtable_bad q bl I v rows X (hM.below hX) hE⟩⟩
    · refine (encoder_bad q bl I v rows X (hM.below hX) hE).mono fun e w' h => ?_
      exact ⟨none, 0, none, 0, h.1, Sl.nil 3 _, Sl.nil 1 _, h.2⟩
    · refine (rencoder_bad q bl I v rows X (hM.below hX) hE).mono fun e w' h => ?_
      exact ⟨none, 0, none, 0, h.1, Sl.nil 3 _, Sl.nil 1 _, h.2⟩
theorem boxP3 {w w0 : World} {a b c : Value} (h : w.alloc (.cells #[a, b, c] 28) = w0) : Below w.heap.size w w0 ∧ w0.cell? ⟨w.heap.size, 0, none⟩ = some a ∧ w0.cell? ⟨w.heap.size, 1, none⟩ = some b ∧ w0.cell? ⟨w.heap.size, 2, none⟩ = some c := by
  subst h
  exact ⟨bel_alloc _ _, by simp, by simp, by simp⟩
set_option maxRecDepth 100000 in
set_option maxHeartbeats 8000000 in
theorem programEncoders_any (q bl I : Int) (v : Value) (rows : List (List Cl)) (n : Int) (vc vo : Value) (c : List Ins) (o : List Int) (s k : Int) (w : World) (hM : MC w v rows) (hc : Sl 3 w vc c.length (icells c)) (ho : Sl 1 w vo o.length (ints o)) (hs0 : IntKind.i64.min ≤ s) (hs1 : s ≤ IntKind.i64.max) (hk0 : IntKind.i64.min ≤ k) (hk1 : k ≤ IntKind.i64.max) :
    Calls Tryz.prog 3 #[.agg #[.int .i64 q, .int .i64 bl, .int .i64 I, v], .agg #[.int .i64 n, vc, vo], .int .i64 s, .int .i64 k] w fun e w' => e = .returned (.bool true) ∧ Below w.heap.size w w' := by
  clear hs0 hs1 hk0 hk1
  have HM := hid hM
  have HC := hid hc
  have HO := hid ho
  have HGr := hid (fun X h => egreat_any q bl I v rows X h)
  have HPg := hid (fun X h1 h2 => pgreat_any n vc vo c o X h1 h2)
  have HAw := hid (fun X => awake_any X)
  have HI64 := hid (fun (hg : gEnc rows = false) (hE : eErr q bl I rows = 0) => show I ≤ 64 by have := (gEnc_valid hg (eErr_zero hE)).2; omega)
  have HD := hid (fun hg => encD_any q bl I v rows w hM hg)
  have HSa := hid (fun hg X h1 h2 h3 => pStep_any q bl I v vc vo rows n c o s k X h1 h2 h3 (HI64.out hg))
  have HSb := hid (fun hg X h1 h2 h3 => rStep_any q bl I v vc vo rows n c o s k X h1 h2 h3 (HI64.out hg))
  have HAa := hid (fun hg X h1 h2 h3 => pAgree_any q bl I v vc vo rows n c o X h1 h2 h3 (HI64.out hg))
  have HAb := hid (fun hg X h1 h2 h3 => rAgree_any q bl I v vc vo rows n c o X h1 h2 h3 (HI64.out hg))
  obtain ⟨am, cap, rfl, hm1, hm2⟩ := hM.slice
  obtain ⟨ac, cc, rfl, _, hc1, hc2, _⟩ := hc
  obtain ⟨ao, co, rfl, _, ho1, ho2, _⟩ := ho
  clear hM HI64
  obtain ⟨nr, hnr⟩ : ∃ nr, rows.length = nr := ⟨_, rfl⟩
  obtain ⟨CL, hCL⟩ : ∃ CL, c.length = CL := ⟨_, rfl⟩
  obtain ⟨OL, hOL⟩ : ∃ OL, o.length = OL := ⟨_, rfl⟩
  rw [hnr] at HM HGr HD HSa HSb HAa HAb ⊢
  rw [hCL] at HC HPg HSa HSb HAa HAb ⊢
  rw [hOL] at HO HPg HSa HSb HAa HAb ⊢
  clear hnr hCL hOL hm1 hm2 hc1 hc2 ho1 ho2
  cases hg : gEnc rows with
  | true =>
    rw [hg] at HGr
    clear hg HD HSa HSb HAa HAb
    go_enter Tryz.func3, Tryz.ntmps3
    go_upto_region 1 with fail
    obtain ⟨w0, hw0⟩ : ∃ w0, (w.alloc (.cells #[.int .i64 q, .int .i64 bl, .int .i64 I, .slice am nr cap] 24)).alloc (.cells #[.int .i64 n, .slice ac CL cc, .slice ao OL co] 28) = w0 := ⟨_, rfl⟩
    obtain ⟨hb0, hz0, c0, c1, c2, c3, p0, p1, p2⟩ := box2E hw0
    rw [hw0]
    have HB0 := hid hb0
    clear hw0 hb0 hz0
    go_wp2_with (first
      | (go_at_call 4; refine (HGr.out _ (HM.out.below HB0.out)).mono ?_; rintro e w1 ⟨rfl, hb1⟩; have HB1 := hid (bel_step HB0.out hb1); have c0 := keeps hb1 c0; have c1 := keeps hb1 c1; have c2 := keeps hb1 c2; have c3 := keeps hb1 c3; have p0 := keeps hb1 p0; have p1 := keeps hb1 p1; have p2 := keeps hb1 p2; clear hb1)
      | (go_at_call 6; refine (HAw.out _).mono ?_; rintro e w3 ⟨rfl, hb3⟩; have HB3 := hid (bel_step HB1.out hb3); clear hb3))
    go_ret
    exact ⟨rfl, HB3.out⟩
  | false =>
    rw [hg] at HGr
    cases hp : greatB c o with
    | true =>
      rw [hp] at HPg
      clear hg hp HD HSa HSb HAa HAb
      go_enter Tryz.func3, Tryz.ntmps3
      go_upto_region 1 with fail
      obtain ⟨w0, hw0⟩ : ∃ w0, (w.alloc (.cells #[.int .i64 q, .int .i64 bl, .int .i64 I, .slice am nr cap] 24)).alloc (.cells #[.int .i64 n, .slice ac CL cc, .slice ao OL co] 28) = w0 := ⟨_, rfl⟩
      obtain ⟨hb0, hz0, c0, c1, c2, c3, p0, p1, p2⟩ := box2E hw0
      rw [hw0]
      have HB0 := hid hb0
      clear hw0 hb0 hz0
      go_wp2_with (first
        | (go_at_call 4; refine (HGr.out _ (HM.out.below HB0.out)).mono ?_; rintro e w1 ⟨rfl, hb1⟩; have HB1 := hid (bel_step HB0.out hb1); have c0 := keeps hb1 c0; have c1 := keeps hb1 c1; have c2 := keeps hb1 c2; have c3 := keeps hb1 c3; have p0 := keeps hb1 p0; have p1 := keeps hb1 p1; have p2 := keeps hb1 p2; clear hb1)
        | (go_at_call 5; refine (HPg.out _ (HC.out.below HB1.out) (HO.out.below HB1.out)).mono ?_; rintro e w2 ⟨rfl, hb2⟩; have HB2 := hid (bel_step HB1.out hb2); have c0 := keeps hb2 c0; have c1 := keeps hb2 c1; have c2 := keeps hb2 c2; have c3 := keeps hb2 c3; have p0 := keeps hb2 p0; have p1 := keeps hb2 p1; have p2 := keeps hb2 p2; clear hb2)
        | (go_at_call 6; refine (HAw.out _).mono ?_; rintro e w3 ⟨rfl, hb3⟩; have HB3 := hid (bel_step HB2.out hb3); clear hb3))
      go_ret
      exact ⟨rfl, HB3.out⟩
    | false =>
      rw [hp] at HPg
      obtain ⟨NN, er, te, C, O, tx, hD⟩ := HD.out hg
      have HD := hid hD
      have HSa := hid (HSa.out hg)
      have HSb := hid (HSb.out hg)
      have HAa := hid (HAa.out hg)
      have HAb := hid (HAb.out hg)
      have HSm := hid (fun X a b d e h1 h2 h3 h4 => psame_any NN a b d e C O X h1 h2 h3 h4)
      clear hg hp hD
      generalize stepV q bl I rows n c o s k = sv at *
      generalize agreeR q bl I rows n c o = av at *
      obtain ⟨v1, v2, v3⟩ := sv
      obtain ⟨b1, b2⟩ := av
      dsimp only at HSa HSb HAa HAb
      obtain ⟨LC, hLC⟩ : ∃ l, C.length = l := ⟨_, rfl⟩
      obtain ⟨LO, hLO⟩ : ∃ l, O.length = l := ⟨_, rfl⟩
      have HLs := hid (And.intro hLC hLO)
      clear hLC hLO
      go_enter Tryz.func3, Tryz.ntmps3
      go_upto_region 1 with fail
      obtain ⟨w0, hw0⟩ : ∃ w0, (w.alloc (.cells #[.int .i64 q, .int .i64 bl, .int .i64 I, .slice am nr cap] 24)).alloc (.cells #[.int .i64 n, .slice ac CL cc, .slice ao OL co] 28) = w0 := ⟨_, rfl⟩
      obtain ⟨hb0, hz0, c0, c1, c2, c3, p0, p1, p2⟩ := box2E hw0
      rw [hw0]
      have HB0 := hid hb0
      clear hw0 hb0 hz0
      go_upto_region 3 with (first
        | (go_at_call 4; refine (HGr.out _ (HM.out.below HB0.out)).mono ?_; rintro e w1 ⟨rfl, hb1⟩; have HB1 := hid (bel_step HB0.out hb1); have c0 := keeps hb1 c0; have c1 := keeps hb1 c1; have c2 := keeps hb1 c2; have c3 := keeps hb1 c3; have p0 := keeps hb1 p0; have p1 := keeps hb1 p1; have p2 := keeps hb1 p2; clear hb1)
        | (go_at_call 5; refine (HPg.out _ (HC.out.below HB1.out) (HO.out.below HB1.out)).mono ?_; rintro e w2 ⟨rfl, hb2⟩; have HB2 := hid (bel_step HB1.out hb2); have c0 := keeps hb2 c0; have c1 := keeps hb2 c1; have c2 := keeps hb2 c2; have c3 := keeps hb2 c3; have p0 := keeps hb2 p0; have p1 := keeps hb2 p1; have p2 := keeps hb2 p2; clear hb2))
      go_upto_region 4 with (go_at_call 7; refine (HD.out.e1 _ HB2.out).mono ?_; rintro e w3 ⟨ac3, cc3, ao3, co3, rfl, hC3, hO3, hb3⟩; rw [HLs.out.1] at hC3; rw [HLs.out.2] at hO3; simp only [HLs.out.1, HLs.out.2]; have HB3 := hid (bel_step HB2.out hb3); have HC3 := hid hC3; have HO3 := hid hO3; have c0 := keeps hb3 c0; have c1 := keeps hb3 c1; have c2 := keeps hb3 c2; have c3 := keeps hb3 c3; have p0 := keeps hb3 p0; have p1 := keeps hb3 p1; have p2 := keeps hb3 p2; clear hb3 hC3 hO3)
      obtain ⟨w4, hw4⟩ : ∃ w4, w3.alloc (.cells #[.int .i64 NN, .slice ac3 LC cc3, .slice ao3 LO co3] 28) = w4 := ⟨_, rfl⟩
      obtain ⟨hb4, r0, r1, r2⟩ := boxP3 hw4
      rw [hw4]
      have HB4 := hid (bel_step HB3.out hb4)
      have HC4 := hid (HC3.out.below hb4)
      have HO4 := hid (HO3.out.below hb4)
      have c0 := keeps hb4 c0
      have c1 := keeps hb4 c1
      have c2 := keeps hb4 c2
      have c3 := keeps hb4 c3
      have p0 := keeps hb4 p0
      have p1 := keeps hb4 p1
      have p2 := keeps hb4 p2
      clear hw4 hb4 HC3 HO3
      generalize w3.heap.size = g9 at *
      go_upto_region 5 with (go_at_call 8; refine (HD.out.e2 _ HB4.out).mono ?_; rintro e w5 ⟨ac5, cc5, ao5, co5, rfl, hC5, hO5, hb5⟩; rw [HLs.out.1] at hC5; rw [HLs.out.2] at hO5; simp only [HLs.out.1, HLs.out.2]; have HB5 := hid (bel_step HB4.out hb5); have HC5 := hid hC5; have HO5 := hid hO5; have HX5 := hid hb5; have c0 := keeps hb5 c0; have c1 := keeps hb5 c1; have c2 := keeps hb5 c2; have c3 := keeps hb5 c3; have p0 := keeps hb5 p0; have p1 := keeps hb5 p1; have p2 := keeps hb5 p2; have r0 := keeps hb5 r0; have r1 := keeps hb5 r1; have r2 := keeps hb5 r2; clear hb5 hC5 hO5)
      obtain ⟨w6, hw6⟩ : ∃ w6, w5.alloc (.cells #[.int .i64 NN, .slice ac5 LC cc5, .slice ao5 LO co5] 28) = w6 := ⟨_, rfl⟩
      obtain ⟨hb6, t0, t1, t2⟩ := boxP3 hw6
      rw [hw6]
      have HB6 := hid (bel_step HB5.out hb6)
      have HC6 := hid (HC5.out.below hb6)
      have HO6 := hid (HO5.out.below hb6)
      have HX46 := hid (bel_step HX5.out hb6)
      have c0 := keeps hb6 c0
      have c1 := keeps hb6 c1
      have c2 := keeps hb6 c2
      have c3 := keeps hb6 c3
      have p0 := keeps hb6 p0
      have p1 := keeps hb6 p1
      have p2 := keeps hb6 p2
      have r0 := keeps hb6 r0
      have r1 := keeps hb6 r1
      have r2 := keeps hb6 r2
      clear hw6 hb6 HC5 HO5 HX5
      generalize w5.heap.size = g11 at *
      go_upto_region 11 with (first
        | (go_at_call 9; refine (HD.out.t1 _ HB6.out).mono ?_; rintro e w7 ⟨rfl, hb7⟩; have HB7 := hid (bel_step HB6.out hb7); have HX7 := hid (hb7); have c0 := keeps hb7 c0; have c1 := keeps hb7 c1; have c2 := keeps hb7 c2; have c3 := keeps hb7 c3; have p0 := keeps hb7 p0; have p1 := keeps hb7 p1; have p2 := keeps hb7 p2; have r0 := keeps hb7 r0; have r1 := keeps hb7 r1; have r2 := keeps hb7 r2; have t0 := keeps hb7 t0; have t1 := keeps hb7 t1; have t2 := keeps hb7 t2; clear hb7)
        | (go_at_call 10; refine (HD.out.t2 _ HB7.out).mono ?_; rintro e w8 ⟨rfl, hb8⟩; have HB8 := hid (bel_step HB7.out hb8); have HX8 := hid (bel_step HX7.out hb8); have c0 := keeps hb8 c0; have c1 := keeps hb8 c1; have c2 := keeps hb8 c2; have c3 := keeps hb8 c3; have p0 := keeps hb8 p0; have p1 := keeps hb8 p1; have p2 := keeps hb8 p2; have r0 := keeps hb8 r0; have r1 := keeps hb8 r1; have r2 := keeps hb8 r2; have t0 := keeps hb8 t0; have t1 := keeps hb8 t1; have t2 := keeps hb8 t2; clear hb8)
        | (go_at_call 11; refine (HSa.out _ (HM.out.below HB8.out) (HC.out.below HB8.out) (HO.out.below HB8.out)).mono ?_; rintro e w9 ⟨rfl, hb9⟩; have HB9 := hid (bel_step HB8.out hb9); have HX9 := hid (bel_step HX8.out hb9); have c0 := keeps hb9 c0; have c1 := keeps hb9 c1; have c2 := keeps hb9 c2; have c3 := keeps hb9 c3; have p0 := keeps hb9 p0; have p1 := keeps hb9 p1; have p2 := keeps hb9 p2; have r0 := keeps hb9 r0; have r1 := keeps hb9 r1; have r2 := keeps hb9 r2; have t0 := keeps hb9 t0; have t1 := keeps hb9 t1; have t2 := keeps hb9 t2; clear hb9)
        | (go_at_call 12; refine (HSb.out _ (HM.out.below HB9.out) (HC.out.below HB9.out) (HO.out.below HB9.out)).mono ?_; rintro e w10 ⟨rfl, hb10⟩; have HB10 := hid (bel_step HB9.out hb10); have HX10 := hid (bel_step HX9.out hb10); have c0 := keeps hb10 c0; have c1 := keeps hb10 c1; have c2 := keeps hb10 c2; have c3 := keeps hb10 c3; have p0 := keeps hb10 p0; have p1 := keeps hb10 p1; have p2 := keeps hb10 p2; have r0 := keeps hb10 r0; have r1 := keeps hb10 r1; have r2 := keeps hb10 r2; have t0 := keeps hb10 t0; have t1 := keeps hb10 t1; have t2 := keeps hb10 t2; clear hb10)
        | (go_at_call 13; refine (HAa.out _ (HM.out.below HB10.out) (HC.out.below HB10.out) (HO.out.below HB10.out)).mono ?_; rintro e w11 ⟨rfl, hb11⟩; have HB11 := hid (bel_step HB10.out hb11); have HX11 := hid (bel_step HX10.out hb11); have c0 := keeps hb11 c0; have c1 := keeps hb11 c1; have c2 := keeps hb11 c2; have c3 := keeps hb11 c3; have p0 := keeps hb11 p0; have p1 := keeps hb11 p1; have p2 := keeps hb11 p2; have r0 := keeps hb11 r0; have r1 := keeps hb11 r1; have r2 := keeps hb11 r2; have t0 := keeps hb11 t0; have t1 := keeps hb11 t1; have t2 := keeps hb11 t2; clear hb11)
        | (go_at_call 14; refine (HAb.out _ (HM.out.below HB11.out) (HC.out.below HB11.out) (HO.out.below HB11.out)).mono ?_; rintro e w12 ⟨rfl, hb12⟩; have HB12 := hid (bel_step HB11.out hb12); have HX12 := hid (bel_step HX11.out hb12); have c0 := keeps hb12 c0; have c1 := keeps hb12 c1; have c2 := keeps hb12 c2; have c3 := keeps hb12 c3; have p0 := keeps hb12 p0; have p1 := keeps hb12 p1; have p2 := keeps hb12 p2; have r0 := keeps hb12 r0; have r1 := keeps hb12 r1; have r2 := keeps hb12 r2; have t0 := keeps hb12 t0; have t1 := keeps hb12 t1; have t2 := keeps hb12 t2; clear hb12))
      clear c0 c1 c2 c3 p0 p1 p2 HSa HSb HAa HAb HD HM HC HO
      have hrf : (tx.toList == tx.toList) = true := by simp
      go_wp2_with (first
        | (go_at_call 15; refine (HSm.out _ _ _ _ _ (by rw [HLs.out.1]; exact HC4.out.below (bel_step HX46.out HX12.out)) (by rw [HLs.out.2]; exact HO4.out.below (bel_step HX46.out HX12.out)) (by rw [HLs.out.1]; exact HC6.out.below HX12.out) (by rw [HLs.out.2]; exact HO6.out.below HX12.out)).mono ?_; rintro e w13 ⟨rfl, hb13⟩; have HB13 := hid (bel_step HB12.out hb13); clear hb13)
        | (go_at_call 6; refine (HAw.out _).mono ?_; rintro e w14 ⟨rfl, hb14⟩; have HB14 := hid (bel_step HB13.out hb14); clear hb14))
      go_ret
      exact ⟨rfl, HB14.out⟩
end Go.Proofs.YtcdfghogmdhfcaaGreatDoor
