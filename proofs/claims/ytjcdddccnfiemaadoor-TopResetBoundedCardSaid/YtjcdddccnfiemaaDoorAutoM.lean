/-
  parser.Automaton: the automaton of a maximal prefix code, or why there is none.
  No condition beyond the words lying in a slice.
-/
import Derived.Test.YtjcdddccnfiemaaDoorPAuto
namespace Go.Proofs.YtjcdddccnfiemaaDoor
open Go.RowKit Go.Deep
set_option linter.unusedVariables false

/-- What parser.Automaton yields: the rows of the machine. -/
def AuPost (q : Int) (ws : List ByteArray) (w : World) (e : Ending) (w' : World) : Prop :=
  (aErr q ws ≠ 0 ∧ (∃ (a : Int) (ao : Option Addr) (n c : Nat), e = .returned (.tuple #[.agg #[.int .i64 a, .slice ao n c], .int .i64 (aErr q ws)])) ∧ Below w.heap.size w w') ∨
  (aErr q ws = 0 ∧ ∃ v', e = .returned (.tuple #[.agg #[.int .i64 q, v'], .int .i64 0]) ∧ (∃ g, Rws w' w.heap.size q.toNat (sizeW ws) v' g (nxI ws)) ∧ Below w.heap.size w w')

set_option maxRecDepth 100000 in
set_option maxHeartbeats 2000000 in
theorem autom_any (q : Int) (v : Value) (ws : List ByteArray) (w : World) (hl : Sl 1 w v ws.length (strs ws)) :
    Calls Tryd.prog 11 #[.agg #[.int .i64 q, v]] w (AuPost q ws w) := by
  have HL := hid hl
  have HBd := hid (fun X h => build_any q v ws X h)
  obtain ⟨ao, cap, rfl, _, hl1, hl2, hl3⟩ := hl
  clear hl3
  go_enter Tryd.func11, Tryd.ntmps11
  go_upto_region 1 with fail
  obtain ⟨w0, hw0⟩ : ∃ w0, (w.alloc (.cells #[.int .i64 q, .slice ao ws.length cap] 24)).alloc (.cells #[.int .i64 0, .slice none 0 0] 29) = w0 := ⟨_, rfl⟩
  obtain ⟨hb0, c0, c1, r0, r1, rf⟩ := boxedA hw0
  rw [hw0]
  have HB0 := hid hb0
  have hra := World.block_lt_of_cell? _ _ r0
  have HR := hid (And.intro r0 (And.intro r1 rf))
  clear hw0 hb0 r0 r1 rf
  by_cases hE : bErr q ws = 0
  · have HE := hid (show aErr q ws = if stuckM (sizeW ws) q.toNat (nxI ws) = true then 8 else 0 by rw [aErr, if_neg (by simp [hE])])
    go_upto_region 2 with (go_at_call 12; refine (HBd.out _ (HL.out.below HB0.out)).mono ?_; rintro e w1 (⟨hne, _⟩ | ⟨_, vS, vN, vE, rfl, hres, hb1⟩); (exact absurd hE hne); have HB1 := hid (bel_step HB0.out hb1); have HRes := hid hres; obtain ⟨aS, cS, aN, cN, aE, cE, rfl, rfl, rfl⟩ := hres.slices; have r0 := keeps hb1 HR.out.1; have r1 := keeps hb1 HR.out.2.1; have rf0 := keeps_frozen hb1 HR.out.1 (HR.out.2.2 0); have rf1 := keeps_frozen hb1 HR.out.2.1 (HR.out.2.2 1))
    obtain ⟨wp, hwp⟩ : ∃ wp, w1.alloc (.cells #[.int .i64 q, .slice aS (sizeW ws) cS, .slice aN (sizeW ws) cN, .slice aE (sizeW ws) cE] 27) = wp := ⟨_, rfl⟩
    obtain ⟨hbp, p0, p1, p2, p3⟩ := boxP hwp
    have rf0 := keeps_frozen hbp r0 rf0
    have rf1 := keeps_frozen hbp r1 rf1
    have r0 := keeps hbp r0
    have r1 := keeps hbp r1
    have HBp := hid (bel_step HB1.out hbp)
    have HSt := hid (fun X h => stuck_any (.slice aN (sizeW ws) cN) (sizeW ws) q.toNat (nxI ws) X h)
    have hq6 : q.toNat ≤ 1000000 := by have := (codeErr_zero (bErr_zero.1 hE).1).q16; omega
    have HRk := hid (HRes.out.keep hbp)
    have HMt := hid (HRk.out.pval hq6).nx
    rw [hwp]
    clear hwp hbp hb1 HRes HR HBd c0 c1 hres
    cases hs : stuckM (sizeW ws) q.toNat (nxI ws)
    · rw [hs] at HSt HE
      clear hs
      go_wp2_with (go_at_call 28; refine (HSt.out _ HMt.out).mono ?_; rintro e w2 ⟨rfl, hD⟩; have rf0 := keeps_frozen (hD.below _) r0 rf0; have rf1 := keeps_frozen (hD.below _) r1 rf1; have r0 := keeps (hD.below _) r0; have r1 := keeps (hD.below _) r1; have p0 := keeps (hD.below _) p0; have p2 := keeps (hD.below _) p2)
      refine bodyPost_ret (v := .tuple #[.agg #[.int .i64 q, .slice aN (sizeW ws) cN], .int .i64 0]) ?_ rfl (.inr ⟨by rw [HE.out]; rfl, _, rfl, ?_, ?_⟩)
      · simp [results, Tryd.results11, go_sem, r0, r1]
      · exact ((((HRk.out.keep (hD.below _)).set (a := ⟨w.heap.size + 1, 0, none⟩) hra _).set (a := ⟨w.heap.size + 1, 1, none⟩) hra _).base HB0.out.size).N
      · exact set2_below (bel_step HBp.out (hD.below _)) (by omega) _ _
    · rw [hs] at HSt HE
      clear hs
      go_wp2_with (go_at_call 28; refine (HSt.out _ HMt.out).mono ?_; rintro e w2 ⟨rfl, hD⟩; have rf0 := keeps_frozen (hD.below _) r0 rf0; have rf1 := keeps_frozen (hD.below _) r1 rf1; have r0 := keeps (hD.below _) r0; have r1 := keeps (hD.below _) r1; have p0 := keeps (hD.below _) p0; have p2 := keeps (hD.below _) p2)
      refine bodyPost_ret (v := .tuple #[.agg #[.int .i64 0, .slice none 0 0], .int .i64 8]) ?_ rfl (.inl ⟨by rw [HE.out]; decide, ⟨_, _, _, _, by rw [HE.out]; rfl⟩, ?_⟩)
      · simp [results, Tryd.results11, go_sem, r0, r1]
      · exact set2_below (bel_step HBp.out (hD.below _)) (by omega) _ _
  · have HE := hid (show aErr q ws = bErr q ws by rw [aErr, if_pos hE])
    have HNe := hid hE
    have hE2 : (bErr q ws != 0) = true := by simp [hE]
    go_upto_region 2 with (go_at_call 12; refine (HBd.out _ (HL.out.below HB0.out)).mono ?_; rintro e w1 (⟨_, rfl, hb1⟩ | ⟨h0, _⟩); rotate_left; (exact absurd h0 hE); unfold nilP; have HB1 := hid (bel_step HB0.out hb1); have r0 := keeps hb1 HR.out.1; have r1 := keeps hb1 HR.out.2.1; have rf0 := keeps_frozen hb1 HR.out.1 (HR.out.2.2 0); have rf1 := keeps_frozen hb1 HR.out.2.1 (HR.out.2.2 1))
    obtain ⟨wp, hwp⟩ : ∃ wp, w1.alloc (.cells #[.int .i64 0, .slice none 0 0, .slice none 0 0, .slice none 0 0] 27) = wp := ⟨_, rfl⟩
    obtain ⟨hbp, _⟩ := boxP hwp
    have rf0 := keeps_frozen hbp r0 rf0
    have rf1 := keeps_frozen hbp r1 rf1
    have r0 := keeps hbp r0
    have r1 := keeps hbp r1
    have HBp := hid (bel_step HB1.out hbp)
    rw [hwp]
    clear hwp hbp hb1 HR HBd c0 c1
    go_wp2
    refine bodyPost_ret (v := .tuple #[.agg #[.int .i64 0, .slice none 0 0], .int .i64 (bErr q ws)]) ?_ rfl (.inl ⟨by rw [HE.out]; exact HNe.out, ⟨_, _, _, _, by rw [HE.out]⟩, ?_⟩)
    · simp [results, Tryd.results11, go_sem, r0, r1]
    · exact set2_below HBp.out (by omega) _ _
theorem aErr_q {q : Int} {ws : List ByteArray} (h : aErr q ws = 0) : q.toNat ≤ 1000000 := by
  have := (aErr_zero h).1.q16
  omega
end Go.Proofs.YtjcdddccnfiemaaDoor
