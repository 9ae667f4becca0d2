/-
  The walk of StripReads: it returns true, and writes nothing that was there.
  No condition beyond what the arguments' types say.
-/
import Derived.Test.YtppflnkadjddiaaStripGr
import Derived.Test.YtppflnkadjddiaaAwake
namespace Go.Proofs.Ytppflnkadjddiaa
open Go.RowKit Go.Sort
set_option linter.unusedVariables false

structure Rd (w : World) (L S : Int) (es : List Edge) (g1 g2 : Nat) (u1 u2 : Value) (X : World) : Prop where
  bel : RowKit.Below w.heap.size w X
  a0 : X.cell? ⟨g1, 0, none⟩ = some (.int .i64 L)
  a1 : X.cell? ⟨g1, 1, none⟩ = some (.int .i64 S)
  a2 : X.cell? ⟨g1, 2, none⟩ = some u1
  b0 : X.cell? ⟨g2, 0, none⟩ = some (.int .i64 L)
  b1 : X.cell? ⟨g2, 1, none⟩ = some (.int .i64 S)
  b2 : X.cell? ⟨g2, 2, none⟩ = some u2
  s1 : Sl 3 X u1 es.length (ecells es)
  s2 : Sl 3 X u2 es.length (ecells es)
theorem Rd.keep {w X Y : World} {L S : Int} {es : List Edge} {g1 g2 : Nat} {u1 u2 : Value} (h : Rd w L S es g1 g2 u1 u2 X) (hb : RowKit.Below X.heap.size X Y) : Rd w L S es g1 g2 u1 u2 Y :=
  ⟨bel_step h.bel hb, keeps hb h.a0, keeps hb h.a1, keeps hb h.a2, keeps hb h.b0, keeps hb h.b1, keeps hb h.b2, h.s1.below hb, h.s2.below hb⟩
theorem Rd.cells {w X : World} {L S : Int} {es : List Edge} {g1 g2 : Nat} {u1 u2 : Value} (h : Rd w L S es g1 g2 u1 u2 X) : X.cell? ⟨g1, 0, none⟩ = some (.int .i64 L) ∧ X.cell? ⟨g1, 1, none⟩ = some (.int .i64 S) ∧ X.cell? ⟨g1, 2, none⟩ = some u1 ∧ X.cell? ⟨g2, 0, none⟩ = some (.int .i64 L) ∧ X.cell? ⟨g2, 1, none⟩ = some (.int .i64 S) ∧ X.cell? ⟨g2, 2, none⟩ = some u2 :=
  ⟨h.a0, h.a1, h.a2, h.b0, h.b1, h.b2⟩
/-- A graph that is laid in a new block. -/
theorem laid_graph (w : World) (L S : Int) (u : Value) : (w.alloc (.cells #[.int .i64 L, .int .i64 S, u] 55)).cell? ⟨w.heap.size, 0, none⟩ = some (.int .i64 L) ∧ (w.alloc (.cells #[.int .i64 L, .int .i64 S, u] 55)).cell? ⟨w.heap.size, 1, none⟩ = some (.int .i64 S) ∧ (w.alloc (.cells #[.int .i64 L, .int .i64 S, u] 55)).cell? ⟨w.heap.size, 2, none⟩ = some u ∧
    RowKit.Below w.heap.size w (w.alloc (.cells #[.int .i64 L, .int .i64 S, u] 55)) :=
  ⟨by simp, by simp, by simp, (Below.refl _ _).alloc (Nat.le_refl _) _⟩

set_option maxRecDepth 100000 in
set_option maxHeartbeats 4000000 in
theorem stripReads_any (h : Int) (v1 : Value) (l : List Int) (v2 : Value) (C : List Int) (w : World) (h0 : IntKind.i64.min ≤ h) (h1 : h ≤ IntKind.i64.max)
    (hl : Sl 1 w v1 l.length (ints l)) (hlb : ∀ x ∈ l, IntKind.i64.min ≤ x ∧ x ≤ IntKind.i64.max) (hr : Sl 1 w v2 C.length (ints C)) (hrb : ∀ x ∈ C, IntKind.i64.min ≤ x ∧ x ≤ IntKind.i64.max) :
    Calls Try.prog 8 #[.int .i64 h, v1, v2] w fun e w' => e = .returned (.bool true) ∧ Below w.heap.size w w' := by
  obtain ⟨ao1, cap1, rfl, _, hcap1, hm1, _⟩ := id hl
  obtain ⟨ao2, cap2, rfl, _, hcap2, hm2, _⟩ := id hr
  have HL := hid hl
  have HC := hid hr
  clear hl hr hlb hrb h0 h1
  by_cases h20 : 20 < l.length
  · go_enter Try.func8, Try.ntmps8
    go_wp2_with (go_at_call 10; refine (awake_any _).mono ?_; rintro e w1 ⟨rfl, hb⟩)
    all_goals
      go_ret
      exact ⟨rfl, hb⟩
  · have hcase : (24 < C.length ∧ C.length ≤ 65536) ∨ 65544 < C.length ∨ C.length ≤ 24 ∨ (65536 < C.length ∧ C.length ≤ 65544) := by omega
    rcases hcase with ⟨c1, c2⟩ | c1 | c1 | ⟨c1, c2⟩
    · go_enter Try.func8, Try.ntmps8
      go_wp2_with (go_at_call 10; refine (awake_any _).mono ?_; rintro e w1 ⟨rfl, hb⟩)
      go_ret
      exact ⟨rfl, hb⟩
    · have c2 : 65536 < C.length := by omega
      have c3 : 24 < C.length := by omega
      go_enter Try.func8, Try.ntmps8
      go_wp2_with (go_at_call 10; refine (awake_any _).mono ?_; rintro e w1 ⟨rfl, hb⟩)
      go_ret
      exact ⟨rfl, hb⟩
    all_goals
      have c3 : ¬ 65544 < C.length := by omega
      first | (have c4 : 24 < C.length := by omega) | skip
      go_enter Try.func8, Try.ntmps8
      go_upto_region 4 with (go_at_call 29; refine (stripGr_any _ _ l _ HL.out).mono ?_; rintro e w1 ⟨u1, rfl, hS1, hb1⟩; obtain ⟨a1, p1, rfl, _⟩ := id hS1)
      generalize hL : gL h l = L at *
      generalize hS : gS h l = S at *
      generalize hG : gG h l = es at *
      generalize hK : chk h l = K at *
      have HQ := hid (And.intro hL (And.intro hS (And.intro hG hK)))
      clear hL hS hG hK
      obtain ⟨x0, x1, x2, x3⟩ := laid_graph w1 L S (.slice a1 es.length p1)
      have HB1 := hid (bel_step hb1 x3)
      have HS1 := hid (hS1.below x3)
      have HX := hid (And.intro x0 (And.intro x1 x2))
      clear hb1 hS1 x0 x1 x2 x3
      generalize w1.alloc (.cells #[.int .i64 L, .int .i64 S, .slice a1 es.length p1] 55) = w2 at *
      generalize w1.heap.size = g1 at *
      go_upto_region 5 with (go_at_call 30; refine (refGr_any _ _ l _ (HL.out.below HB1.out)).mono ?_; rintro e w3 ⟨u2, rfl, hS3, hb3⟩; rw [HQ.out.1, HQ.out.2.1, HQ.out.2.2.2]; rw [HQ.out.2.2.1] at hS3; obtain ⟨a3, p3, rfl, _⟩ := id hS3)
      obtain ⟨y0, y1, y2, y3⟩ := laid_graph w3 L S (.slice a3 es.length p3)
      have hbb := bel_step hb3 y3
      have HF := hid (show Rd w L S es g1 w3.heap.size _ _ _ from ⟨bel_step HB1.out hbb, keeps hbb HX.out.1, keeps hbb HX.out.2.1, keeps hbb HX.out.2.2, y0, y1, y2, HS1.out.below hbb, hS3.below y3⟩)
      clear hb3 hbb y0 y1 y2 y3 HX HS1 HB1 hS3
      generalize w3.alloc (.cells #[.int .i64 L, .int .i64 S, .slice a3 es.length p3] 55) = w4 at *
      generalize w3.heap.size = g2 at *
      go_upto_region 6 with (go_at_call 12; refine (rows_any _ _ C _ (HC.out.below HF.out.bel)).mono ?_; rintro e w5 ⟨va, rfl, ho5, hb5⟩)
      have HA := hid (Sl.of_owns ho5)
      have HF5 := hid (HF.out.keep hb5)
      clear ho5 hb5 HF
      go_upto_region 7 with (go_at_call 31; refine (refRows_any _ _ C _ (HC.out.below HF5.out.bel)).mono ?_; rintro e w6 ⟨vb, rfl, ho6, hb6⟩)
      have hB := Sl.of_owns ho6
      have hA := HA.out.below hb6
      have hF := HF5.out.keep hb6
      clear ho6 hb6 HF5 HA
      generalize rowsErr h C = Ke at *
      generalize rowsL h C = R at *
      obtain ⟨f0, f1, f2, f3, f4, f5⟩ := hF.cells
      go_wp2_with (first
        | (go_at_call 32; refine (check_any h l _ _ (HL.out.below hF.bel)).mono ?_; rintro e w7 ⟨rfl, rfl⟩; rw [HQ.out.2.2.2])
        | (go_at_call 33; refine (refCheck_any h l _ _ (HL.out.below hF.bel)).mono ?_; rintro e w7 ⟨rfl, hD⟩; rw [HQ.out.2.2.2]; have hF := hF.keep (hD.below _); have hA := hA.below (hD.below _); have hB := hB.below (hD.below _); clear hD; obtain ⟨f0, f1, f2, f3, f4, f5⟩ := hF.cells)
        | (go_at_call 34; refine (same_any L S _ _ es _ hF.s1 hF.s2).mono ?_; rintro e w8 ⟨rfl, hb8⟩; have hF := hF.keep hb8; have hA := hA.below hb8; have hB := hB.below hb8)
        | (go_at_call 15; refine (equalS R _ _ _ hA hB).mono ?_; rintro e w9 ⟨rfl, hb9⟩; have hF := hF.keep hb9)
        | (go_at_call 27; refine (transpose_any _ l _ (HL.out.below hF.bel)).mono ?_; rintro e w10 ⟨vt, rfl, ht, hb10⟩; have hT := Sl.of_owns ht; have hF := hF.keep hb10)
        | (go_at_call 35; refine (refTranspose_any _ l _ (HL.out.below hF.bel)).mono ?_; rintro e w11 ⟨vu, rfl, hu, hb11⟩; have hU := Sl.of_owns hu; have hT := hT.below hb11; have hF := hF.keep hb11)
        | (go_at_call 14; refine (equalI (trL l) _ _ _ hT hU).mono ?_; rintro e w12 ⟨rfl, hb12⟩; have hF := hF.keep hb12)
        | (go_at_call 10; refine (awake_any _).mono ?_; rintro e w13 ⟨rfl, hb13⟩))
      go_ret
      exact ⟨rfl, bel_step hF.bel hb13⟩
end Go.Proofs.Ytppflnkadjddiaa
